/- The law of LostVehicles, walked. -/
import Derived.Test.YtmbaalkeogckbaaGreatQ5
namespace Go.Proofs.YtmbaalkeogckbaaGreat
open Go Go.Am Go.Proofs
set_option maxRecDepth 100000
set_option maxHeartbeats 4000000
attribute [local irreducible] amOps amC opCall opIndexAddr opPick retQ opMake opStore amDraw opAppend opLoad opNilCmp opIndex opSlice

def putL : List Int → Int → List Int
  | [], n => [n]
  | v :: xs, n => if v < n then v :: putL xs n else if v = n then v :: xs else n :: v :: xs
theorem putL_take : ∀ (i : Nat) (xs : List Int) (n : Int), (∀ v ∈ xs.take i, v < n) → putL xs n = xs.take i ++ putL (xs.drop i) n
  | 0, xs, n, _ => rfl
  | i + 1, [], n, _ => rfl
  | i + 1, v :: xs, n, h => by
    have hv : v < n := h v (by simp)
    rw [List.take_succ_cons, List.drop_succ_cons, putL, if_pos hv, putL_take i xs n fun u hu => h u (by simp [hu])]
    rfl
theorem putL_mem : ∀ (xs : List Int) (n x : Int), x ∈ putL xs n ↔ x ∈ xs ∨ x = n
  | [], n, x => by simp [putL]
  | v :: xs, n, x => by
    unfold putL
    split
    · simp only [List.mem_cons, putL_mem xs n x]
      constructor
      · rintro (h | h | h)
        · exact .inl (.inl h)
        · exact .inl (.inr h)
        · exact .inr h
      · rintro ((h | h) | h)
        · exact .inl h
        · exact .inr (.inl h)
        · exact .inr (.inr h)
    · split
      · rename_i e
        subst e
        simp only [List.mem_cons]
        constructor
        · exact fun h => .inl h
        · rintro (h | h)
          · exact h
          · exact .inl h
      · simp only [List.mem_cons]
        constructor
        · rintro (h | h)
          · exact .inr h
          · exact .inl h
        · rintro (h | h)
          · exact .inr h
          · exact .inl h
theorem putL_asc : ∀ (xs : List Int) (n : Int), xs.Pairwise (· < ·) → (putL xs n).Pairwise (· < ·)
  | [], n, _ => List.pairwise_singleton _ _
  | v :: xs, n, h => by
    obtain ⟨h1, h2⟩ := List.pairwise_cons.1 h
    unfold putL
    split
    · rename_i hv
      refine List.pairwise_cons.2 ⟨fun u hu => ?_, putL_asc xs n h2⟩
      rcases (putL_mem xs n u).1 hu with hu | rfl
      · exact h1 u hu
      · exact hv
    · split
      · exact h
      · refine List.pairwise_cons.2 ⟨fun u hu => ?_, h⟩
        rcases List.mem_cons.1 hu with rfl | hu
        · omega
        · have := h1 u hu
          omega
theorem putL_len : ∀ (xs : List Int) (n : Int), (putL xs n).length ≤ xs.length + 1
  | [], _ => Nat.le_refl _
  | v :: xs, n => by
    have := putL_len xs n
    unfold putL
    split
    · rw [List.length_cons, List.length_cons]; omega
    · split <;> simp
theorem asc_ext : ∀ {a b : List Int}, a.Pairwise (· < ·) → b.Pairwise (· < ·) → (∀ x, x ∈ a ↔ x ∈ b) → a = b
  | [], [], _, _, _ => rfl
  | [], y :: b, _, _, h => absurd ((h y).2 (by simp)) (by simp)
  | x :: a, [], _, _, h => absurd ((h x).1 (by simp)) (by simp)
  | x :: a, y :: b, ha, hb, h => by
    obtain ⟨a1, a2⟩ := List.pairwise_cons.1 ha
    obtain ⟨b1, b2⟩ := List.pairwise_cons.1 hb
    have e : x = y := by
      rcases List.mem_cons.1 ((h x).1 (by simp)) with e | hx
      · exact e
      · rcases List.mem_cons.1 ((h y).2 (by simp)) with e | hy
        · exact e.symm
        · have h1 := b1 x hx
          have h2 := a1 y hy
          omega
    subst e
    congr 1
    refine asc_ext a2 b2 fun z => ⟨fun hz => ?_, fun hz => ?_⟩
    · rcases List.mem_cons.1 ((h z).1 (by simp [hz])) with e | hz'
      · have := a1 z hz; omega
      · exact hz'
    · rcases List.mem_cons.1 ((h z).2 (by simp [hz])) with e | hz'
      · have := b1 z hz; omega
      · exact hz'

theorem int_sz (xs : List Int) : ∀ r ∈ xs.map intRow, r.length = 1 := by
  intro r hr
  obtain ⟨v, _, rfl⟩ := List.mem_map.1 hr
  rfl
theorem int_szone (xs : List Int) : ∀ r ∈ xs.map intRow, r.length = 1 ∧ r.all D.one = true := by
  intro r hr
  obtain ⟨v, _, rfl⟩ := List.mem_map.1 hr
  exact ⟨rfl, rfl⟩
theorem c62 (xs : List Int) (n : Int) (hl : xs.length ≤ 1048576) : CallOk Tryz.prog 62 [.imm (.list (xs.map intRow)), .imm (.int .i64 n)] { res := [.imm (.list ((putL xs n).map intRow))], sep := false } := by
  refine callOk_of tyOk Tryz.func62 rfl rfl (le_of_ble rfl) (le_of_ble rfl) (mutOk_imm rfl _) ?_
  have hml : (xs.map intRow).length = xs.length := List.length_map _
  repeat' first | refine go_seq ?_ | refine go_region ?_ | refine go_miss rfl rfl rfl ?_ | refine go_undef rfl rfl rfl ?_ | refine go_draw drawsOk ?_ | ((first | refine go_op rfl ?_ | refine go_nil ?_ | refine go_hit rfl rfl rfl ?_ | refine go_splitT rfl rfl rfl (fun h => ?_) (fun h => ?_) | refine go_splitF rfl rfl rfl (fun h => ?_) (fun h => ?_) | refine go_dop rfl ?_ | refine go_dhit rfl rfl ?_ | refine go_dmiss rfl rfl ?_ | refine go_dundef rfl rfl ?_ | refine go_dend (by kernel_rfl) ?_ | refine go_pickT rfl ?_ | refine go_pickF rfl ?_ | refine go_pick rfl (fun h => ?_) (fun h => ?_)) <;> conv => whnf) | ((first | refine go_dsplit2 rfl (fun h => ?_) (fun h => ?_) | refine go_loadB ?_ | refine ⟨by kernel_rfl, ?_⟩ | refine go_ret ?_) <;> conv => whnf) | refine go_block ?_ | ((first | refine go_skip ?_ | refine go_exit ?_) <;> conv => whnf) | refine go_true rfl ?_ | refine go_false rfl ?_ | refine go_cond rfl (fun h => ?_) (fun h => ?_) | refine ⟨rfl, ?_⟩ | ((first | refine ⟨trivial, ?_⟩ | refine ⟨le_of_ble rfl, ?_⟩) <;> conv => whnf) | fail
  refine go_loop (α := Nat) (fun i => i ≤ xs.length ∧ ∀ v ∈ xs.take i, v < n) (fun i => xs.length - i) (fun i => st Tryz.f62.ntmps [(0, .imm (.list (xs.map intRow))), (1, .imm (.int .i64 n)), (5, .imm (.int .i64 (i : Nat)))] [] []) 0
    ⟨Nat.zero_le _, by simp⟩ (ref_st0 rfl ⟨rfl, rfl, rfl, trivial⟩ rfl) ?_
  rintro i ⟨hi, ha⟩
  have hpt := putL_take i xs n ha
  have hk : i ≤ (xs.map intRow).length := by omega
  have o1 : ∀ r ∈ (xs.map intRow).take i, r.length = 1 ∧ r.all D.one = true := fun r hr => int_szone xs r (List.mem_of_mem_take hr)
  have o2 : ∀ r ∈ (xs.map intRow).drop i, r.length = 1 ∧ r.all D.one = true := fun r hr => int_szone xs r (List.mem_of_mem_drop hr)
  have o5 := int_one [n]
  have hsz := int_sz xs
  have ht : ((xs.map intRow).take i).length = i := by rw [List.length_take]; omega
  have hd : ((xs.map intRow).drop i).length = xs.length - i := by rw [List.length_drop]; omega
  have hB1 : ([] : List (List D)).length + ((xs.map intRow).take i).length ≤ 1073741824 := by rw [ht]; simp; omega
  have hB2 : 0 + ((xs.map intRow).take i).length + 1 ≤ 1073741824 := by rw [ht]; omega
  have hB3 : (([] : List (List D)) ++ (xs.map intRow).take i ++ [n].map intRow).length + ((xs.map intRow).drop i).length ≤ 1073741824 := by rw [List.nil_append, List.length_append, ht, hd]; simp; omega
  have hL2 : 0 + ((xs.map intRow).take i).length = (([] : List (List D)) ++ (xs.map intRow).take i).length := by rw [List.nil_append]; omega
  have hL3 : 0 + ((xs.map intRow).take i).length + 1 = (([] : List (List D)) ++ (xs.map intRow).take i ++ [n].map intRow).length := by rw [List.nil_append, List.length_append]; simp
  cases hx : xs[i]? with
  | none =>
    have hge := le_of_at hx
    rw [List.drop_eq_nil_of_le hge] at hpt
    have e : (putL xs n).map intRow = (xs.map intRow).take i ++ [n].map intRow ++ (xs.map intRow).drop i := by
      rw [hpt, List.map_append, List.map_take, List.drop_eq_nil_of_le (show (xs.map intRow).length ≤ i by omega), List.append_nil]
      rfl
    rw [e]
    repeat' first | refine go_seq ?_ | refine go_region ?_ | refine go_miss rfl rfl rfl ?_ | refine go_undef rfl rfl rfl ?_ | refine go_draw drawsOk ?_ | ((first | refine go_op rfl ?_ | refine go_nil ?_ | refine go_hit rfl rfl rfl ?_ | refine go_splitT rfl rfl rfl (fun h => ?_) (fun h => ?_) | refine go_splitF rfl rfl rfl (fun h => ?_) (fun h => ?_) | refine go_dop rfl ?_ | refine go_dhit rfl rfl ?_ | refine go_dmiss rfl rfl ?_ | refine go_dundef rfl rfl ?_ | refine go_dend (by kernel_rfl) ?_ | refine go_pickT rfl ?_ | refine go_pickF rfl ?_ | refine go_pick rfl (fun h => ?_) (fun h => ?_) | refine go_sliceToI (k := i) rfl rfl rfl hsz rfl hk ?_ | refine go_sliceFromI (k := i) rfl rfl rfl hsz rfl hk ?_ | refine go_appImm (rows2 := (xs.map intRow).take i) rfl rfl rfl rfl rfl rfl rfl rfl rfl o1 rfl rfl hB1 ?_ | refine go_append (rows2 := [n].map intRow) rfl rfl rfl rfl rfl rfl rfl rfl rfl rfl rfl rfl o5 rfl hL2 rfl hB2 ?_ | refine go_appImm (rows2 := (xs.map intRow).drop i) rfl rfl rfl rfl rfl rfl rfl rfl rfl o2 rfl hL3 hB3 ?_) <;> conv => whnf) | ((first | refine go_dsplit2 rfl (fun h => ?_) (fun h => ?_) | refine go_loadB ?_ | refine ⟨by kernel_rfl, ?_⟩ | refine go_ret ?_) <;> conv => whnf) | refine go_block ?_ | ((first | refine go_skip ?_ | refine go_exit ?_) <;> conv => whnf) | refine go_true rfl ?_ | refine go_false rfl ?_ | refine go_cond rfl (fun h => ?_) (fun h => ?_) | refine ⟨rfl, ?_⟩ | ((first | refine ⟨trivial, ?_⟩ | refine ⟨le_of_ble rfl, ?_⟩) <;> conv => whnf) | fail
    all_goals first
      | exact ret_ownN rfl rfl rfl rfl rfl (by rw [List.drop_zero, hd, ht]; exact List.take_of_length_le (by simp; omega))
      | (exfalso; have h' := of_decide_eq_false h; omega)
      | (exfalso; have h' := of_decide_eq_true h; omega)
      | (exfalso; rename_i hq; have h' := of_decide_eq_true hq; omega)
      | (exfalso; rename_i hq; have h' := of_decide_eq_false hq; omega)
      | (exfalso; rename_i hq _; have h' := of_decide_eq_true hq; omega)
      | (exfalso; rename_i hq _; have h' := of_decide_eq_false hq; omega)
      | trace_state
  | some v =>
    have hlt := lt_of_at hx
    have hr := row_at intRow hx
    have hdv : xs.drop i = v :: xs.drop (i + 1) := by
      rw [List.drop_eq_getElem_cons hlt]
      congr 1
      exact (List.getElem?_eq_some_iff.1 hx).2
    rw [hdv] at hpt
    by_cases h1 : v < n
    · skip
      repeat' first | refine go_seq ?_ | refine go_region ?_ | refine go_miss rfl rfl rfl ?_ | refine go_undef rfl rfl rfl ?_ | refine go_draw drawsOk ?_ | ((first | refine go_op rfl ?_ | refine go_nil ?_ | refine go_hit rfl rfl rfl ?_ | refine go_splitT rfl rfl rfl (fun h => ?_) (fun h => ?_) | refine go_splitF rfl rfl rfl (fun h => ?_) (fun h => ?_) | refine go_dop rfl ?_ | refine go_dhit rfl rfl ?_ | refine go_dmiss rfl rfl ?_ | refine go_dundef rfl rfl ?_ | refine go_dend (by kernel_rfl) ?_ | refine go_pickT rfl ?_ | refine go_pickF rfl ?_ | refine go_pick rfl (fun h => ?_) (fun h => ?_) | refine go_idx rfl rfl rfl rfl (by omega) hr rfl ?_) <;> conv => whnf) | ((first | refine go_dsplit2 rfl (fun h => ?_) (fun h => ?_) | refine go_loadB ?_ | refine ⟨by kernel_rfl, ?_⟩ | refine go_ret ?_) <;> conv => whnf) | refine go_block ?_ | ((first | refine go_skip ?_ | refine go_exit ?_) <;> conv => whnf) | refine go_true rfl ?_ | refine go_false rfl ?_ | refine go_cond rfl (fun h => ?_) (fun h => ?_) | refine ⟨rfl, ?_⟩ | ((first | refine ⟨trivial, ?_⟩ | refine ⟨le_of_ble rfl, ?_⟩) <;> conv => whnf) | fail
      all_goals first
        | exact go_next (i + 1) ⟨by omega, by rw [List.take_add_one, hx]; intro u hu; rcases List.mem_append.1 hu with hu | hu; exact ha u hu; simp at hu; omega⟩ (by omega) (ref_st0 rfl ⟨rfl, rfl, next_i (by omega), trivial⟩ rfl)
        | (exfalso; have h' := of_decide_eq_false h; omega)
        | (exfalso; have h' := of_decide_eq_true h; omega)
        | (exfalso; rename_i hq; have h' := of_decide_eq_true hq; omega)
        | (exfalso; rename_i hq; have h' := of_decide_eq_false hq; omega)
        | (exfalso; rename_i hq _; have h' := of_decide_eq_true hq; omega)
        | (exfalso; rename_i hq _; have h' := of_decide_eq_false hq; omega)
        | trace_state
    · by_cases h2 : v = n
      · have e : putL xs n = xs := by rw [hpt, putL, if_neg h1, if_pos h2, ← hdv, List.take_append_drop]
        rw [e]
        repeat' first | refine go_seq ?_ | refine go_region ?_ | refine go_miss rfl rfl rfl ?_ | refine go_undef rfl rfl rfl ?_ | refine go_draw drawsOk ?_ | ((first | refine go_op rfl ?_ | refine go_nil ?_ | refine go_hit rfl rfl rfl ?_ | refine go_splitT rfl rfl rfl (fun h => ?_) (fun h => ?_) | refine go_splitF rfl rfl rfl (fun h => ?_) (fun h => ?_) | refine go_dop rfl ?_ | refine go_dhit rfl rfl ?_ | refine go_dmiss rfl rfl ?_ | refine go_dundef rfl rfl ?_ | refine go_dend (by kernel_rfl) ?_ | refine go_pickT rfl ?_ | refine go_pickF rfl ?_ | refine go_pick rfl (fun h => ?_) (fun h => ?_) | refine go_idx rfl rfl rfl rfl (by omega) hr rfl ?_) <;> conv => whnf) | ((first | refine go_dsplit2 rfl (fun h => ?_) (fun h => ?_) | refine go_loadB ?_ | refine ⟨by kernel_rfl, ?_⟩ | refine go_ret ?_) <;> conv => whnf) | refine go_block ?_ | ((first | refine go_skip ?_ | refine go_exit ?_) <;> conv => whnf) | refine go_true rfl ?_ | refine go_false rfl ?_ | refine go_cond rfl (fun h => ?_) (fun h => ?_) | refine ⟨rfl, ?_⟩ | ((first | refine ⟨trivial, ?_⟩ | refine ⟨le_of_ble rfl, ?_⟩) <;> conv => whnf) | fail
        all_goals first
          | exact ret_immN rfl rfl rfl rfl rfl
          | (exfalso; have h' := of_decide_eq_false h; omega)
          | (exfalso; have h' := of_decide_eq_true h; omega)
          | (exfalso; rename_i hq; have h' := of_decide_eq_true hq; omega)
          | (exfalso; rename_i hq; have h' := of_decide_eq_false hq; omega)
          | (exfalso; rename_i hq _; have h' := of_decide_eq_true hq; omega)
          | (exfalso; rename_i hq _; have h' := of_decide_eq_false hq; omega)
          | trace_state
      · have e : (putL xs n).map intRow = (xs.map intRow).take i ++ [n].map intRow ++ (xs.map intRow).drop i := by
          rw [hpt, putL, if_neg h1, if_neg h2, ← hdv, List.map_append, List.map_take, List.map_cons, List.map_drop, List.append_assoc]
          rfl
        rw [e]
        repeat' first | refine go_seq ?_ | refine go_region ?_ | refine go_miss rfl rfl rfl ?_ | refine go_undef rfl rfl rfl ?_ | refine go_draw drawsOk ?_ | ((first | refine go_op rfl ?_ | refine go_nil ?_ | refine go_hit rfl rfl rfl ?_ | refine go_splitT rfl rfl rfl (fun h => ?_) (fun h => ?_) | refine go_splitF rfl rfl rfl (fun h => ?_) (fun h => ?_) | refine go_dop rfl ?_ | refine go_dhit rfl rfl ?_ | refine go_dmiss rfl rfl ?_ | refine go_dundef rfl rfl ?_ | refine go_dend (by kernel_rfl) ?_ | refine go_pickT rfl ?_ | refine go_pickF rfl ?_ | refine go_pick rfl (fun h => ?_) (fun h => ?_) | refine go_idx rfl rfl rfl rfl (by omega) hr rfl ?_ | refine go_sliceToI (k := i) rfl rfl rfl hsz rfl hk ?_ | refine go_sliceFromI (k := i) rfl rfl rfl hsz rfl hk ?_ | refine go_appImm (rows2 := (xs.map intRow).take i) rfl rfl rfl rfl rfl rfl rfl rfl rfl o1 rfl rfl hB1 ?_ | refine go_append (rows2 := [n].map intRow) rfl rfl rfl rfl rfl rfl rfl rfl rfl rfl rfl rfl o5 rfl hL2 rfl hB2 ?_ | refine go_appImm (rows2 := (xs.map intRow).drop i) rfl rfl rfl rfl rfl rfl rfl rfl rfl o2 rfl hL3 hB3 ?_) <;> conv => whnf) | ((first | refine go_dsplit2 rfl (fun h => ?_) (fun h => ?_) | refine go_loadB ?_ | refine ⟨by kernel_rfl, ?_⟩ | refine go_ret ?_) <;> conv => whnf) | refine go_block ?_ | ((first | refine go_skip ?_ | refine go_exit ?_) <;> conv => whnf) | refine go_true rfl ?_ | refine go_false rfl ?_ | refine go_cond rfl (fun h => ?_) (fun h => ?_) | refine ⟨rfl, ?_⟩ | ((first | refine ⟨trivial, ?_⟩ | refine ⟨le_of_ble rfl, ?_⟩) <;> conv => whnf) | fail
        all_goals first
          | exact ret_ownN rfl rfl rfl rfl rfl (by rw [List.drop_zero, hd, ht]; exact List.take_of_length_le (by simp; omega))
          | (exfalso; have h' := of_decide_eq_false h; omega)
          | (exfalso; have h' := of_decide_eq_true h; omega)
          | (exfalso; rename_i hq; have h' := of_decide_eq_true hq; omega)
          | (exfalso; rename_i hq; have h' := of_decide_eq_false hq; omega)
          | (exfalso; rename_i hq _; have h' := of_decide_eq_true hq; omega)
          | (exfalso; rename_i hq _; have h' := of_decide_eq_false hq; omega)
          | trace_state

section
variable {P : Program} {T : TypeId → Option TI} {m : Nat → Option O} {ep : Nat}
/-- A call whose result goes to a given slot. -/
theorem go_callAt {o : Oper} {f : FuncId} {args : List AV} {K : Eff → Prop} (dst : Nat) (_ : o.dst = some dst) (md : List Nat) {ins : List In} {out : Out} {vs fz : List Nat} {gs : List (Option Nat)} (hc : CallOk P f ins out)
    (ha : argsIn m md args = some (ins, vs, fz, gs)) (hs : (out.sep || vs.isEmpty) = true) (hn : callChk vs fz gs = true) (hf : freshB m (resUp ep (o.dst.getD 0) 0 out.res) = true)
    (hk : K (callEff ep (o.dst.getD 0) fz gs out)) : opCall P m ep o f args K := go_call md hc ha hs hn hf hk
theorem ret_immN2 {fn : Func} {ins : List In} {r1 r2 : ResultVar} {a a' b b' : D} {σ : S} (hr : fn.results.toList = [r1, r2]) (hm : mutIdx ins = []) (hp : σ.pm = []) (h1 : retAV T σ r1 = .imm a') (ha : a' = a) (h2 : retAV T σ r2 = .imm b') (hb : b' = b) : retQ T fn ins { res := [.imm a, .imm b], sep := false } .ret σ := by
  exact ret_all (avs := [.imm a', .imm b']) (by rw [hr]; simp only [List.map_cons, List.map_nil, h1, h2]) ⟨⟨ha, fun e => by cases e⟩, ⟨hb, fun e => by cases e⟩, trivial⟩ (by simp [ownIds]) (by rw [hp]; exact List.nodup_nil) (by rw [hm, hp]; trivial)
theorem ret_ownimmN2 {fn : Func} {ins : List In} {r1 r2 : ResultVar} {id off len ty sz : Nat} {rows rows' : List (List D)} {b b' : D} {σ : S} (hr : fn.results.toList = [r1, r2]) (hm : mutIdx ins = []) (hp : σ.pm = []) (h1 : retAV T σ r1 = .own id off len) (hmm : σ.m id = some (.arr ty sz rows'))
    (hd : (rows'.drop off).take len = rows) (h2 : retAV T σ r2 = .imm b') (hb : b' = b) : retQ T fn ins { res := [.imm (.list rows), .imm b], sep := false } .ret σ := by
  subst hd
  refine ret_all (avs := [.own id off len, .imm b']) (by rw [hr]; simp only [List.map_cons, List.map_nil, h1, h2]) ⟨?_, ⟨hb, fun e => by cases e⟩, trivial⟩ (by simp [ownIds]) (by rw [hp]; exact List.nodup_nil) (by rw [hm, hp]; trivial)
  simp only [Ret1, hmm]
  exact ⟨trivial, (fun e => by cases e), by rw [hp]; simp⟩
end

def eqV (r : Report) (m : Match) : Bool := decide (m.vehicle = r.vehicle)
def lostB (M : List Match) (r : Report) : Bool := !(M.any (eqV r))
def lostL (M : List Match) (L : List Report) : List Int := (L.filter (lostB M)).map Report.vehicle
def lostP (M : List Match) (rs : List Report) : List Int := rs.foldl (fun o r => if lostB M r then putL o r.vehicle else o) []
def lvR (t : Timetable) (rs : List Report) (lim : Int) : List Int := if mrOk t rs lim then lostL (matched t rs lim) (lasts 100 rs) else []
theorem lostL_next (M : List Match) {L : List Report} {i : Nat} {r : Report} (h : L[i]? = some r) : lostL M (L.take (i + 1)) = lostL M (L.take i) ++ (if lostB M r then [r.vehicle] else []) := by
  unfold lostL
  rw [List.take_add_one, h]
  simp only [Option.toList_some, List.filter_append, List.map_append]
  congr 1
  cases hd : lostB M r <;> simp [hd]
theorem lostL_len (M : List Match) (L : List Report) : (lostL M L).length ≤ L.length := by
  unfold lostL
  rw [List.length_map]
  exact List.length_filter_le _ _
theorem lostP_next (M : List Match) {rs : List Report} {i : Nat} {r : Report} (h : rs[i]? = some r) : lostP M (rs.take (i + 1)) = if lostB M r then putL (lostP M (rs.take i)) r.vehicle else lostP M (rs.take i) := by
  unfold lostP
  rw [List.take_add_one, h, List.foldl_append]
  rfl
theorem lostP_facts (M : List Match) : ∀ (rs : List Report) (o : List Int), o.Pairwise (· < ·) →
    (rs.foldl (fun o r => if lostB M r then putL o r.vehicle else o) o).Pairwise (· < ·) ∧ ∀ x, x ∈ rs.foldl (fun o r => if lostB M r then putL o r.vehicle else o) o ↔ x ∈ o ∨ ∃ r ∈ rs, lostB M r = true ∧ r.vehicle = x
  | [], o, h => ⟨h, fun x => by simp⟩
  | r :: rs, o, h => by
    have h1 : (if lostB M r then putL o r.vehicle else o).Pairwise (· < ·) := by
      split
      · exact putL_asc _ _ h
      · exact h
    obtain ⟨h2, h3⟩ := lostP_facts M rs _ h1
    refine ⟨h2, fun x => ?_⟩
    rw [List.foldl_cons, h3 x]
    cases hb : lostB M r with
    | true =>
      rw [if_pos rfl, putL_mem]
      constructor
      · rintro ((h | h) | ⟨q, q1, q2, q3⟩)
        · exact .inl h
        · exact .inr ⟨r, by simp, hb, h.symm⟩
        · exact .inr ⟨q, by simp [q1], q2, q3⟩
      · rintro (h | ⟨q, q1, q2, q3⟩)
        · exact .inl (.inl h)
        · rcases List.mem_cons.1 q1 with rfl | q1
          · exact .inl (.inr q3.symm)
          · exact .inr ⟨q, q1, q2, q3⟩
    | false =>
      rw [if_neg (by simp)]
      constructor
      · rintro (h | ⟨q, q1, q2, q3⟩)
        · exact .inl h
        · exact .inr ⟨q, by simp [q1], q2, q3⟩
      · rintro (h | ⟨q, q1, q2, q3⟩)
        · exact .inl h
        · rcases List.mem_cons.1 q1 with rfl | q1
          · rw [hb] at q2; cases q2
          · exact .inr ⟨q, q1, q2, q3⟩
theorem lostB_veh (M : List Match) {r s : Report} (h : r.vehicle = s.vehicle) : lostB M r = lostB M s := by
  unfold lostB eqV
  rw [h]
theorem lasts_asc (rs : List Report) : (lasts 100 rs).Pairwise fun a b => a.vehicle < b.vehicle := by
  unfold lasts
  refine List.Pairwise.filterMap _ (fun a a' h b hb b' hb' => ?_) List.pairwise_lt_range
  have h1 := (lastR_some hb).2
  have h2 := (lastR_some hb').2
  omega
theorem lost_same (M : List Match) {rs : List Report} (hv : vehOk rs) : lostP M rs = lostL M (lasts 100 rs) := by
  obtain ⟨h1, h2⟩ := lostP_facts M rs [] List.Pairwise.nil
  refine asc_ext h1 ?_ fun x => ?_
  · unfold lostL
    exact ((lasts_asc rs).filter _).map Report.vehicle fun a b h => h
  · rw [show (x ∈ lostP M rs ↔ _) from h2 x]
    unfold lostL
    rw [List.mem_map]
    constructor
    · rintro (h | ⟨r, q1, q2, q3⟩)
      · cases h
      · have hr := hv r q1
        obtain ⟨s, hs⟩ : ∃ s, lastR rs r.vehicle = some s := by
          cases hl : lastR rs r.vehicle with
          | some s => exact ⟨s, rfl⟩
          | none => exact absurd rfl (lastR_none hl r q1)
        have hsv := (lastR_some hs).2
        refine ⟨s, List.mem_filter.2 ⟨List.mem_filterMap.2 ⟨r.vehicle.toNat, List.mem_range.2 (by omega), ?_⟩, by rw [lostB_veh M hsv]; exact q2⟩, by omega⟩
        rw [show ((r.vehicle.toNat : Nat) : Int) = r.vehicle from by omega]
        exact hs
    · rintro ⟨r, q1, q2⟩
      obtain ⟨q3, q4⟩ := List.mem_filter.1 q1
      exact .inr ⟨r, (lasts_mem q3).1, q4, q2⟩
theorem lvR_len (t : Timetable) (rs : List Report) (lim : Int) : (lvR t rs lim).length ≤ 1048576 := by
  unfold lvR
  split
  · have h1 := lostL_len (matched t rs lim) (lasts 100 rs)
    have h2 := lasts_len 100 rs
    omega
  · simp

theorem c64 (r : Report) (m : Match) : CallOk Tryz.prog 64 [.imm (.agg m.enc), .imm (.ptr r.enc)] { res := [.imm (.bool (eqV r m))] } := by
  refine callOk_of tyOk Tryz.func64 rfl rfl (le_of_ble rfl) (le_of_ble rfl) (mutOk_imm rfl _) ?_
  repeat' first | refine go_seq ?_ | refine go_region ?_ | ((first | refine go_op rfl ?_ | refine go_nil ?_) <;> conv => whnf) | ((first | refine go_loadB ?_ | refine ⟨by kernel_rfl, ?_⟩ | refine go_ret ?_) <;> conv => whnf) | ((first | refine go_skip ?_) <;> conv => whnf) | refine ⟨rfl, ?_⟩ | ((first | refine ⟨trivial, ?_⟩ | refine ⟨le_of_ble rfl, ?_⟩) <;> conv => whnf) | fail
  all_goals exact ret_imm rfl rfl rfl rfl rfl rfl

theorem c32 (t : Timetable) (hf : t.fit) (rs : List Report) (hl : rs.length ≤ 1048576) (lim : Int) : CallOk Tryz.prog 32 [.imm (.agg t.enc), .imm (.list (rs.map Report.enc)), .imm (.int .i64 lim)] { res := [.arr 3 1 ((lvR t rs lim).map intRow), .imm (.bool (mrOk t rs lim))] } := by
  refine callOk_of tyOk Tryz.func32 rfl rfl (le_of_ble rfl) (le_of_ble rfl) (mutOk_imm rfl _) ?_
  have h0 := c50 t hf rs hl lim
  unfold lvR
  cases hp : mrOk t rs lim with
  | false =>
    rw [hp] at h0
    repeat' first | refine go_seq ?_ | refine go_region ?_ | ((first | refine go_op rfl ?_ | refine go_nil ?_ | refine go_storeBox rfl rfl rfl rfl rfl rfl ?_ | refine go_call [] (h0) rfl rfl rfl rfl ?_) <;> conv => whnf) | ((first | refine go_loadB ?_ | refine ⟨by kernel_rfl, ?_⟩ | refine go_ret ?_) <;> conv => whnf) | refine go_block ?_ | ((first | refine go_skip ?_ | refine go_exit ?_) <;> conv => whnf) | refine go_true rfl ?_ | refine go_false rfl ?_ | refine go_cond rfl (fun h => ?_) (fun h => ?_) | refine ⟨rfl, ?_⟩ | ((first | refine ⟨trivial, ?_⟩ | refine ⟨le_of_ble rfl, ?_⟩) <;> conv => whnf) | fail
    all_goals exact ret_arr2 rfl rfl rfl rfl rfl rfl (by intro r hr; cases hr) rfl rfl rfl
  | true =>
    rw [hp] at h0
    have h1 := c51 t (mr_tt hp).1 rs (mr_tt hp).2 hl lim
    have h2 := c63 rs (mr_tt hp).2 hl
    have hml := matched_len t rs lim
    have h12 := tt_12 (mr_tt hp).1
    have hLn := lasts_len 100 rs
    rw [if_pos rfl]
    generalize matched t rs lim = M at *
    generalize lasts 100 rs = L at *
    have hLl : (L.map Report.enc).length = L.length := List.length_map _
    repeat' first | refine go_seq ?_ | refine go_region ?_ | ((first | refine go_op rfl ?_ | refine go_nil ?_ | refine go_storeBox rfl rfl rfl rfl rfl rfl ?_ | refine go_call [] (h0) rfl rfl rfl rfl ?_ | refine go_call [] (h1) rfl rfl rfl rfl ?_ | refine go_call [] (h2) rfl rfl rfl rfl ?_) <;> conv => whnf) | ((first | refine go_loadB ?_ | refine ⟨by kernel_rfl, ?_⟩ | refine go_ret ?_) <;> conv => whnf) | refine go_block ?_ | ((first | refine go_skip ?_ | refine go_exit ?_) <;> conv => whnf) | refine go_true rfl ?_ | refine go_false rfl ?_ | refine go_cond rfl (fun h => ?_) (fun h => ?_) | refine ⟨rfl, ?_⟩ | ((first | refine ⟨trivial, ?_⟩ | refine ⟨le_of_ble rfl, ?_⟩) <;> conv => whnf) | fail
    all_goals try first
      | (exfalso; have h' := of_decide_eq_false h; omega)
      | (exfalso; have h' := of_decide_eq_true h; omega)
      | (exfalso; rename_i hq; have h' := of_decide_eq_true hq; omega)
      | (exfalso; rename_i hq; have h' := of_decide_eq_false hq; omega)
      | (exfalso; rename_i hq _; have h' := of_decide_eq_true hq; omega)
      | (exfalso; rename_i hq _; have h' := of_decide_eq_false hq; omega)
    refine go_loop (α := Nat) (fun i => i ≤ L.length) (fun i => L.length - i)
      (fun i => st Tryz.f32.ntmps [(8, .imm (.list (M.map Match.enc))), (9, .own 1001 0 ((lostL M (L.take i)).map intRow).length), (22, .imm (.list (L.map Report.enc))), (23, .imm (.int .i64 (L.map Report.enc).length)), (24, .imm (.int .i64 (i : Nat)))]
        [(1001, .arr 3 1 ((lostL M (L.take i)).map intRow))] []) 0 (Nat.zero_le _) ?_ ?_
    · exact ref_st (fun _ => nid 4 9) rfl ⟨rfl, ⟨rfl, rfl⟩, rfl, rfl, rfl, trivial⟩ ⟨rfl, trivial⟩ (by simp) rfl (by simp)
    intro i hi
    cases hx : L[i]? with
    | none =>
      have hge := le_of_at hx
      rw [List.take_of_length_le hge]
      repeat' first | refine go_seq ?_ | refine go_region ?_ | ((first | refine go_op rfl ?_ | refine go_nil ?_ | refine go_storeBox rfl rfl rfl rfl rfl rfl ?_) <;> conv => whnf) | ((first | refine go_loadB ?_ | refine ⟨by kernel_rfl, ?_⟩ | refine go_ret ?_) <;> conv => whnf) | refine go_block ?_ | ((first | refine go_skip ?_ | refine go_exit ?_) <;> conv => whnf) | refine go_true rfl ?_ | refine go_false rfl ?_ | refine go_cond rfl (fun h => ?_) (fun h => ?_) | refine ⟨rfl, ?_⟩ | ((first | refine ⟨trivial, ?_⟩ | refine ⟨le_of_ble rfl, ?_⟩) <;> conv => whnf) | fail
      all_goals first
        | exact ret_arr2 rfl rfl rfl rfl rfl (by rw [List.drop_zero, List.take_length]) (int_gr _) rfl rfl rfl
        | (exfalso; have h' := of_decide_eq_false h; omega)
        | (exfalso; have h' := of_decide_eq_true h; omega)
        | (exfalso; rename_i hq; have h' := of_decide_eq_true hq; omega)
        | (exfalso; rename_i hq; have h' := of_decide_eq_false hq; omega)
        | (exfalso; rename_i hq _; have h' := of_decide_eq_true hq; omega)
        | (exfalso; rename_i hq _; have h' := of_decide_eq_false hq; omega)
        | trace_state
    | some r =>
      have hlt := lt_of_at hx
      have hr := row_at Report.enc hx
      have hnx := lostL_next M hx
      have hol := lostL_len M (L.take i)
      rw [List.length_take] at hol
      have hb : ((lostL M (L.take i)).map intRow).length + 1 ≤ 1073741824 := by rw [List.length_map]; omega
      have hone := int_one [r.vehicle]
      have hcc := c60d 64 (.ptr r.enc) (eqV r) (c64 r) M (by omega)
      have hlo : lostB M r = !(M.any (eqV r)) := rfl
      cases ha : M.any (eqV r) with
      | true =>
        rw [ha] at hcc hlo
        rw [hlo] at hnx
        repeat' first | refine go_seq ?_ | refine go_region ?_ | ((first | refine go_op rfl ?_ | refine go_nil ?_ | refine go_storeBox rfl rfl rfl rfl rfl rfl ?_ | refine go_call [] (hcc) rfl rfl rfl rfl ?_ | refine go_idx rfl rfl rfl rfl (by omega) hr rfl ?_) <;> conv => whnf) | ((first | refine go_loadB ?_ | refine ⟨by kernel_rfl, ?_⟩ | refine go_ret ?_) <;> conv => whnf) | refine go_block ?_ | ((first | refine go_skip ?_ | refine go_exit ?_) <;> conv => whnf) | refine go_true rfl ?_ | refine go_false rfl ?_ | refine go_cond rfl (fun h => ?_) (fun h => ?_) | refine ⟨rfl, ?_⟩ | ((first | refine ⟨trivial, ?_⟩ | refine ⟨le_of_ble rfl, ?_⟩) <;> conv => whnf) | fail
        all_goals first
          | (refine go_next (i + 1) (by omega) (by omega) (ref_st id rfl ⟨rfl, ⟨?_, rfl⟩, rfl, rfl, next_i (by omega), trivial⟩ ⟨?_, trivial⟩ (by simp) rfl (by simp))
             · show AV.own _ _ _ = AV.own _ _ _
               rw [hnx]; simp
             · show some _ = some _
               rw [hnx]; simp
             done)
          | (exfalso; have h' := of_decide_eq_false h; omega)
          | (exfalso; have h' := of_decide_eq_true h; omega)
          | (exfalso; rename_i hq; have h' := of_decide_eq_true hq; omega)
          | (exfalso; rename_i hq; have h' := of_decide_eq_false hq; omega)
          | (exfalso; rename_i hq _; have h' := of_decide_eq_true hq; omega)
          | (exfalso; rename_i hq _; have h' := of_decide_eq_false hq; omega)
          | trace_state
      | false =>
        rw [ha] at hcc hlo
        rw [hlo] at hnx
        change _ = _ ++ [r.vehicle] at hnx
        repeat' first | refine go_seq ?_ | refine go_region ?_ | ((first | refine go_op rfl ?_ | refine go_nil ?_ | refine go_storeBox rfl rfl rfl rfl rfl rfl ?_ | refine go_call [] (hcc) rfl rfl rfl rfl ?_ | refine go_idx rfl rfl rfl rfl (by omega) hr rfl ?_ | refine go_append (rows2 := [r.vehicle].map intRow) rfl rfl rfl rfl rfl rfl rfl rfl rfl rfl rfl rfl hone rfl rfl rfl hb ?_) <;> conv => whnf) | ((first | refine go_loadB ?_ | refine ⟨by kernel_rfl, ?_⟩ | refine go_ret ?_) <;> conv => whnf) | refine go_block ?_ | ((first | refine go_skip ?_ | refine go_exit ?_) <;> conv => whnf) | refine go_true rfl ?_ | refine go_false rfl ?_ | refine go_cond rfl (fun h => ?_) (fun h => ?_) | refine ⟨rfl, ?_⟩ | ((first | refine ⟨trivial, ?_⟩ | refine ⟨le_of_ble rfl, ?_⟩) <;> conv => whnf) | fail
        all_goals first
          | (refine go_next (i + 1) (by omega) (by omega) (ref_st (fun _ => nid 5 36) rfl ⟨rfl, ⟨?_, rfl⟩, rfl, rfl, next_i (by omega), trivial⟩ ⟨?_, trivial⟩ (by simp) rfl (by simp))
             · show AV.own _ _ _ = AV.own _ _ _
               rw [hnx, List.map_append, List.length_append]; try rfl
             · show some _ = some _
               rw [hnx, List.map_append]; try rfl
             done)
          | (exfalso; have h' := of_decide_eq_false h; omega)
          | (exfalso; have h' := of_decide_eq_true h; omega)
          | (exfalso; rename_i hq; have h' := of_decide_eq_true hq; omega)
          | (exfalso; rename_i hq; have h' := of_decide_eq_false hq; omega)
          | (exfalso; rename_i hq _; have h' := of_decide_eq_true hq; omega)
          | (exfalso; rename_i hq _; have h' := of_decide_eq_false hq; omega)
          | trace_state

theorem any_not {α : Type} (p : α → Bool) {xs : List α} {i : Nat} {x : α} (h : xs[i]? = some x) : (!((xs.take (i + 1)).any p)) = (!((xs.take i).any p) && !(p x)) := by
  rw [List.take_add_one, h, List.any_append]
  cases (xs.take i).any p <;> simp

theorem c31 (t : Timetable) (hf : t.fit) (rs : List Report) (hl : rs.length ≤ 1048576) (lim : Int) : CallOk Tryz.prog 31 [.imm (.agg t.enc), .imm (.list (rs.map Report.enc)), .imm (.int .i64 lim)] { res := [.imm (.list ((lvR t rs lim).map intRow)), .imm (.bool (mrOk t rs lim))], sep := false } := by
  refine callOk_of tyOk Tryz.func31 rfl rfl (le_of_ble rfl) (le_of_ble rfl) (mutOk_imm rfl _) ?_
  have h0 := c47 t hf rs hl lim
  unfold lvR
  cases hp : mrOk t rs lim with
  | false =>
    rw [hp] at h0
    repeat' first | refine go_seq ?_ | refine go_region ?_ | refine go_miss rfl rfl rfl ?_ | refine go_undef rfl rfl rfl ?_ | refine go_draw drawsOk ?_ | ((first | refine go_op rfl ?_ | refine go_nil ?_ | refine go_hit rfl rfl rfl ?_ | refine go_splitT rfl rfl rfl (fun h => ?_) (fun h => ?_) | refine go_splitF rfl rfl rfl (fun h => ?_) (fun h => ?_) | refine go_dop rfl ?_ | refine go_dhit rfl rfl ?_ | refine go_dmiss rfl rfl ?_ | refine go_dundef rfl rfl ?_ | refine go_dend (by kernel_rfl) ?_ | refine go_pickT rfl ?_ | refine go_pickF rfl ?_ | refine go_pick rfl (fun h => ?_) (fun h => ?_) | refine go_call [] (h0) rfl rfl rfl rfl ?_) <;> conv => whnf) | ((first | refine go_dsplit2 rfl (fun h => ?_) (fun h => ?_) | refine go_loadB ?_ | refine ⟨by kernel_rfl, ?_⟩ | refine go_ret ?_) <;> conv => whnf) | refine go_block ?_ | ((first | refine go_skip ?_ | refine go_exit ?_) <;> conv => whnf) | refine go_true rfl ?_ | refine go_false rfl ?_ | refine go_cond rfl (fun h => ?_) (fun h => ?_) | refine ⟨rfl, ?_⟩ | ((first | refine ⟨trivial, ?_⟩ | refine ⟨le_of_ble rfl, ?_⟩) <;> conv => whnf) | fail
    all_goals exact ret_ownimmN2 rfl rfl rfl rfl rfl rfl rfl rfl
  | true =>
    rw [hp] at h0
    have h1 := c48 t (mr_tt hp).1 rs (mr_tt hp).2 hl lim
    have hml := matched_len t rs lim
    have h12 := tt_12 (mr_tt hp).1
    have hsame := lost_same (matched t rs lim) (mr_tt hp).2
    rw [if_pos rfl, ← hsame]
    generalize matched t rs lim = M at *
    have hMl : (M.map Match.enc).length = M.length := List.length_map _
    have hrl : (rs.map Report.enc).length = rs.length := List.length_map _
    repeat' first | refine go_seq ?_ | refine go_region ?_ | refine go_miss rfl rfl rfl ?_ | refine go_undef rfl rfl rfl ?_ | refine go_draw drawsOk ?_ | ((first | refine go_op rfl ?_ | refine go_nil ?_ | refine go_hit rfl rfl rfl ?_ | refine go_splitT rfl rfl rfl (fun h => ?_) (fun h => ?_) | refine go_splitF rfl rfl rfl (fun h => ?_) (fun h => ?_) | refine go_dop rfl ?_ | refine go_dhit rfl rfl ?_ | refine go_dmiss rfl rfl ?_ | refine go_dundef rfl rfl ?_ | refine go_dend (by kernel_rfl) ?_ | refine go_pickT rfl ?_ | refine go_pickF rfl ?_ | refine go_pick rfl (fun h => ?_) (fun h => ?_) | refine go_call [] (h0) rfl rfl rfl rfl ?_ | refine go_call [] (h1) rfl rfl rfl rfl ?_) <;> conv => whnf) | ((first | refine go_dsplit2 rfl (fun h => ?_) (fun h => ?_) | refine go_loadB ?_ | refine ⟨by kernel_rfl, ?_⟩ | refine go_ret ?_) <;> conv => whnf) | refine go_block ?_ | ((first | refine go_skip ?_ | refine go_exit ?_) <;> conv => whnf) | refine go_true rfl ?_ | refine go_false rfl ?_ | refine go_cond rfl (fun h => ?_) (fun h => ?_) | refine ⟨rfl, ?_⟩ | ((first | refine ⟨trivial, ?_⟩ | refine ⟨le_of_ble rfl, ?_⟩) <;> conv => whnf) | fail
    all_goals try first
      | (exfalso; have h' := of_decide_eq_false h; omega)
      | (exfalso; have h' := of_decide_eq_true h; omega)
      | (exfalso; rename_i hq; have h' := of_decide_eq_true hq; omega)
      | (exfalso; rename_i hq; have h' := of_decide_eq_false hq; omega)
      | (exfalso; rename_i hq _; have h' := of_decide_eq_true hq; omega)
      | (exfalso; rename_i hq _; have h' := of_decide_eq_false hq; omega)
    refine go_loop (α := Nat) (fun i => i ≤ rs.length ∧ (lostP M (rs.take i)).length ≤ i) (fun i => rs.length - i)
      (fun i => st Tryz.f31.ntmps [(1, .imm (.list (rs.map Report.enc))), (8, .imm (.list ((lostP M (rs.take i)).map intRow))), (9, .imm (.list (M.map Match.enc))), (10, .imm (.int .i64 (i : Nat)))] [] []) 0 ⟨Nat.zero_le _, Nat.le_refl _⟩ ?_ ?_
    · refine Ref.trans (ref_freeze 8 rfl rfl) ?_
      exact ref_st0 rfl ⟨rfl, rfl, rfl, rfl, trivial⟩ rfl
    rintro i ⟨hi, hol⟩
    cases hx : rs[i]? with
    | none =>
      have hge := le_of_at hx
      rw [List.take_of_length_le hge]
      repeat' first | refine go_seq ?_ | refine go_region ?_ | refine go_miss rfl rfl rfl ?_ | refine go_undef rfl rfl rfl ?_ | refine go_draw drawsOk ?_ | ((first | refine go_op rfl ?_ | refine go_nil ?_ | refine go_hit rfl rfl rfl ?_ | refine go_splitT rfl rfl rfl (fun h => ?_) (fun h => ?_) | refine go_splitF rfl rfl rfl (fun h => ?_) (fun h => ?_) | refine go_dop rfl ?_ | refine go_dhit rfl rfl ?_ | refine go_dmiss rfl rfl ?_ | refine go_dundef rfl rfl ?_ | refine go_dend (by kernel_rfl) ?_ | refine go_pickT rfl ?_ | refine go_pickF rfl ?_ | refine go_pick rfl (fun h => ?_) (fun h => ?_)) <;> conv => whnf) | ((first | refine go_dsplit2 rfl (fun h => ?_) (fun h => ?_) | refine go_loadB ?_ | refine ⟨by kernel_rfl, ?_⟩ | refine go_ret ?_) <;> conv => whnf) | refine go_block ?_ | ((first | refine go_skip ?_ | refine go_exit ?_) <;> conv => whnf) | refine go_true rfl ?_ | refine go_false rfl ?_ | refine go_cond rfl (fun h => ?_) (fun h => ?_) | refine ⟨rfl, ?_⟩ | ((first | refine ⟨trivial, ?_⟩ | refine ⟨le_of_ble rfl, ?_⟩) <;> conv => whnf) | fail
      all_goals first
        | exact ret_immN2 rfl rfl rfl rfl rfl rfl rfl
        | (exfalso; have h' := of_decide_eq_false h; omega)
        | (exfalso; have h' := of_decide_eq_true h; omega)
        | (exfalso; rename_i hq; have h' := of_decide_eq_true hq; omega)
        | (exfalso; rename_i hq; have h' := of_decide_eq_false hq; omega)
        | (exfalso; rename_i hq _; have h' := of_decide_eq_true hq; omega)
        | (exfalso; rename_i hq _; have h' := of_decide_eq_false hq; omega)
        | trace_state
    | some r =>
      have hlt := lt_of_at hx
      have hr := row_at Report.enc hx
      have hnx := lostP_next M hx
      have hcp := c62 (lostP M (rs.take i)) r.vehicle (by omega)
      repeat' first | refine go_seq ?_ | refine go_region ?_ | refine go_miss rfl rfl rfl ?_ | refine go_undef rfl rfl rfl ?_ | refine go_draw drawsOk ?_ | ((first | refine go_op rfl ?_ | refine go_nil ?_ | refine go_hit rfl rfl rfl ?_ | refine go_splitT rfl rfl rfl (fun h => ?_) (fun h => ?_) | refine go_splitF rfl rfl rfl (fun h => ?_) (fun h => ?_) | refine go_dop rfl ?_ | refine go_dhit rfl rfl ?_ | refine go_dmiss rfl rfl ?_ | refine go_dundef rfl rfl ?_ | refine go_dend (by kernel_rfl) ?_ | refine go_pickT rfl ?_ | refine go_pickF rfl ?_ | refine go_pick rfl (fun h => ?_) (fun h => ?_)) <;> conv => whnf) | ((first | refine go_dsplit2 rfl (fun h => ?_) (fun h => ?_) | refine go_loadB ?_ | refine ⟨by kernel_rfl, ?_⟩ | refine go_ret ?_) <;> conv => whnf) | refine go_block ?_ | ((first | refine go_skip ?_ | refine go_exit ?_) <;> conv => whnf) | refine go_true rfl ?_ | refine go_false rfl ?_ | refine go_cond rfl (fun h => ?_) (fun h => ?_) | refine ⟨rfl, ?_⟩ | ((first | refine ⟨trivial, ?_⟩ | refine ⟨le_of_ble rfl, ?_⟩) <;> conv => whnf) | fail
      all_goals try first
        | (exfalso; have h' := of_decide_eq_false h; omega)
        | (exfalso; have h' := of_decide_eq_true h; omega)
        | (exfalso; rename_i hq; have h' := of_decide_eq_true hq; omega)
        | (exfalso; rename_i hq; have h' := of_decide_eq_false hq; omega)
        | (exfalso; rename_i hq _; have h' := of_decide_eq_true hq; omega)
        | (exfalso; rename_i hq _; have h' := of_decide_eq_false hq; omega)
      refine go_loop (α := Nat) (fun k => k ≤ M.length) (fun k => M.length - k)
        (fun k => st Tryz.f31.ntmps [(1, .imm (.list (rs.map Report.enc))), (8, .imm (.list ((lostP M (rs.take i)).map intRow))), (9, .imm (.list (M.map Match.enc))), (10, .imm (.int .i64 (i : Nat))), (11, .imm (.bool (!((M.take k).any (eqV r))))), (12, .imm (.int .i64 (k : Nat)))] [] []) 0 (Nat.zero_le _) ?_ ?_
      · exact ref_st0 rfl ⟨rfl, rfl, rfl, rfl, rfl, rfl, trivial⟩ rfl
      intro k hk
      cases hy : M[k]? with
      | some m =>
        have hlt2 := lt_of_at hy
        have hr2 := row_at Match.enc hy
        have hn2 := any_not (eqV r) hy
        cases hb : (!((M.take k).any (eqV r))) with
        | true =>
          rw [hb, Bool.true_and] at hn2
          repeat' first | refine go_seq ?_ | refine go_region ?_ | refine go_miss rfl rfl rfl ?_ | refine go_undef rfl rfl rfl ?_ | refine go_draw drawsOk ?_ | ((first | refine go_op rfl ?_ | refine go_nil ?_ | refine go_hit rfl rfl rfl ?_ | refine go_splitT rfl rfl rfl (fun h => ?_) (fun h => ?_) | refine go_splitF rfl rfl rfl (fun h => ?_) (fun h => ?_) | refine go_dop rfl ?_ | refine go_dhit rfl rfl ?_ | refine go_dmiss rfl rfl ?_ | refine go_dundef rfl rfl ?_ | refine go_dend (by kernel_rfl) ?_ | refine go_pickT rfl ?_ | refine go_pickF rfl ?_ | refine go_pick rfl (fun h => ?_) (fun h => ?_) | refine go_idx rfl rfl rfl rfl (by omega) hr2 rfl ?_ | refine go_idx rfl rfl rfl rfl (by omega) hr rfl ?_) <;> conv => whnf) | ((first | refine go_dsplit2 rfl (fun h => ?_) (fun h => ?_) | refine go_loadB ?_ | refine ⟨by kernel_rfl, ?_⟩ | refine go_ret ?_) <;> conv => whnf) | refine go_block ?_ | ((first | refine go_skip ?_ | refine go_exit ?_) <;> conv => whnf) | refine go_true rfl ?_ | refine go_false rfl ?_ | refine go_cond rfl (fun h => ?_) (fun h => ?_) | refine ⟨rfl, ?_⟩ | ((first | refine ⟨trivial, ?_⟩ | refine ⟨le_of_ble rfl, ?_⟩) <;> conv => whnf) | fail
          all_goals first
            | (refine go_next (k + 1) (by omega) (by omega) (ref_st0 rfl ⟨rfl, rfl, rfl, rfl, ?_, next_i (by omega), trivial⟩ rfl)
               show AV.imm _ = AV.imm _
               rw [hn2]; rfl)
            | (exfalso; have h' := of_decide_eq_false h; omega)
            | (exfalso; have h' := of_decide_eq_true h; omega)
            | (exfalso; rename_i hq; have h' := of_decide_eq_true hq; omega)
            | (exfalso; rename_i hq; have h' := of_decide_eq_false hq; omega)
            | (exfalso; rename_i hq _; have h' := of_decide_eq_true hq; omega)
            | (exfalso; rename_i hq _; have h' := of_decide_eq_false hq; omega)
            | trace_state
        | false =>
          rw [hb, Bool.false_and] at hn2
          repeat' first | refine go_seq ?_ | refine go_region ?_ | refine go_miss rfl rfl rfl ?_ | refine go_undef rfl rfl rfl ?_ | refine go_draw drawsOk ?_ | ((first | refine go_op rfl ?_ | refine go_nil ?_ | refine go_hit rfl rfl rfl ?_ | refine go_splitT rfl rfl rfl (fun h => ?_) (fun h => ?_) | refine go_splitF rfl rfl rfl (fun h => ?_) (fun h => ?_) | refine go_dop rfl ?_ | refine go_dhit rfl rfl ?_ | refine go_dmiss rfl rfl ?_ | refine go_dundef rfl rfl ?_ | refine go_dend (by kernel_rfl) ?_ | refine go_pickT rfl ?_ | refine go_pickF rfl ?_ | refine go_pick rfl (fun h => ?_) (fun h => ?_) | refine go_idx rfl rfl rfl rfl (by omega) hr2 rfl ?_ | refine go_idx rfl rfl rfl rfl (by omega) hr rfl ?_) <;> conv => whnf) | ((first | refine go_dsplit2 rfl (fun h => ?_) (fun h => ?_) | refine go_loadB ?_ | refine ⟨by kernel_rfl, ?_⟩ | refine go_ret ?_) <;> conv => whnf) | refine go_block ?_ | ((first | refine go_skip ?_ | refine go_exit ?_) <;> conv => whnf) | refine go_true rfl ?_ | refine go_false rfl ?_ | refine go_cond rfl (fun h => ?_) (fun h => ?_) | refine ⟨rfl, ?_⟩ | ((first | refine ⟨trivial, ?_⟩ | refine ⟨le_of_ble rfl, ?_⟩) <;> conv => whnf) | fail
          all_goals first
            | (refine go_next (k + 1) (by omega) (by omega) (ref_st0 rfl ⟨rfl, rfl, rfl, rfl, ?_, next_i (by omega), trivial⟩ rfl)
               show AV.imm _ = AV.imm _
               rw [hn2])
            | (exfalso; have h' := of_decide_eq_false h; omega)
            | (exfalso; have h' := of_decide_eq_true h; omega)
            | (exfalso; rename_i hq; have h' := of_decide_eq_true hq; omega)
            | (exfalso; rename_i hq; have h' := of_decide_eq_false hq; omega)
            | (exfalso; rename_i hq _; have h' := of_decide_eq_true hq; omega)
            | (exfalso; rename_i hq _; have h' := of_decide_eq_false hq; omega)
            | trace_state
      | none =>
        have hge2 := le_of_at hy
        rw [List.take_of_length_le hge2]
        have hlo : lostB M r = !(M.any (eqV r)) := rfl
        have hpl := putL_len (lostP M (rs.take i)) r.vehicle
        cases hb : (!(M.any (eqV r))) with
        | true =>
          rw [hlo, hb, if_pos rfl] at hnx
          rw [← hnx] at hcp hpl
          repeat' first | refine go_seq ?_ | refine go_region ?_ | refine go_miss rfl rfl rfl ?_ | refine go_undef rfl rfl rfl ?_ | refine go_draw drawsOk ?_ | ((first | refine go_op rfl ?_ | refine go_nil ?_ | refine go_hit rfl rfl rfl ?_ | refine go_splitT rfl rfl rfl (fun h => ?_) (fun h => ?_) | refine go_splitF rfl rfl rfl (fun h => ?_) (fun h => ?_) | refine go_dop rfl ?_ | refine go_dhit rfl rfl ?_ | refine go_dmiss rfl rfl ?_ | refine go_dundef rfl rfl ?_ | refine go_dend (by kernel_rfl) ?_ | refine go_pickT rfl ?_ | refine go_pickF rfl ?_ | refine go_pick rfl (fun h => ?_) (fun h => ?_) | refine go_call [] (hcp) rfl rfl rfl rfl ?_ | refine go_idx rfl rfl rfl rfl (by omega) hr rfl ?_) <;> conv => whnf) | ((first | refine go_dsplit2 rfl (fun h => ?_) (fun h => ?_) | refine go_loadB ?_ | refine ⟨by kernel_rfl, ?_⟩ | refine go_ret ?_) <;> conv => whnf) | refine go_block ?_ | ((first | refine go_skip ?_ | refine go_exit ?_) <;> conv => whnf) | refine go_true rfl ?_ | refine go_false rfl ?_ | refine go_cond rfl (fun h => ?_) (fun h => ?_) | refine ⟨rfl, ?_⟩ | ((first | refine ⟨trivial, ?_⟩ | refine ⟨le_of_ble rfl, ?_⟩) <;> conv => whnf) | fail
          all_goals first
            | exact go_next (i + 1) ⟨by omega, by omega⟩ (by omega) (ref_st0 rfl ⟨rfl, rfl, rfl, next_i (by omega), trivial⟩ rfl)
            | (exfalso; have h' := of_decide_eq_false h; omega)
            | (exfalso; have h' := of_decide_eq_true h; omega)
            | (exfalso; rename_i hq; have h' := of_decide_eq_true hq; omega)
            | (exfalso; rename_i hq; have h' := of_decide_eq_false hq; omega)
            | (exfalso; rename_i hq _; have h' := of_decide_eq_true hq; omega)
            | (exfalso; rename_i hq _; have h' := of_decide_eq_false hq; omega)
            | trace_state
        | false =>
          rw [hlo, hb, if_neg (by simp)] at hnx
          rw [← hnx]
          repeat' first | refine go_seq ?_ | refine go_region ?_ | refine go_miss rfl rfl rfl ?_ | refine go_undef rfl rfl rfl ?_ | refine go_draw drawsOk ?_ | ((first | refine go_op rfl ?_ | refine go_nil ?_ | refine go_hit rfl rfl rfl ?_ | refine go_splitT rfl rfl rfl (fun h => ?_) (fun h => ?_) | refine go_splitF rfl rfl rfl (fun h => ?_) (fun h => ?_) | refine go_dop rfl ?_ | refine go_dhit rfl rfl ?_ | refine go_dmiss rfl rfl ?_ | refine go_dundef rfl rfl ?_ | refine go_dend (by kernel_rfl) ?_ | refine go_pickT rfl ?_ | refine go_pickF rfl ?_ | refine go_pick rfl (fun h => ?_) (fun h => ?_)) <;> conv => whnf) | ((first | refine go_dsplit2 rfl (fun h => ?_) (fun h => ?_) | refine go_loadB ?_ | refine ⟨by kernel_rfl, ?_⟩ | refine go_ret ?_) <;> conv => whnf) | refine go_block ?_ | ((first | refine go_skip ?_ | refine go_exit ?_) <;> conv => whnf) | refine go_true rfl ?_ | refine go_false rfl ?_ | refine go_cond rfl (fun h => ?_) (fun h => ?_) | refine ⟨rfl, ?_⟩ | ((first | refine ⟨trivial, ?_⟩ | refine ⟨le_of_ble rfl, ?_⟩) <;> conv => whnf) | fail
          all_goals first
            | exact go_next (i + 1) ⟨by omega, by rw [hnx]; omega⟩ (by omega) (ref_st0 rfl ⟨rfl, rfl, rfl, next_i (by omega), trivial⟩ rfl)
            | (exfalso; have h' := of_decide_eq_false h; omega)
            | (exfalso; have h' := of_decide_eq_true h; omega)
            | (exfalso; rename_i hq; have h' := of_decide_eq_true hq; omega)
            | (exfalso; rename_i hq; have h' := of_decide_eq_false hq; omega)
            | (exfalso; rename_i hq _; have h' := of_decide_eq_true hq; omega)
            | (exfalso; rename_i hq _; have h' := of_decide_eq_false hq; omega)
            | trace_state

end Go.Proofs.YtmbaalkeogckbaaGreat

