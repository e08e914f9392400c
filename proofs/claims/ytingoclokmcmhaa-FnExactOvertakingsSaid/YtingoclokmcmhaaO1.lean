/- Lists of lists of numbers: their marks, told by their blocks; the laws' helpers. -/
import Derived.Test.YtingoclokmcmhaaAmHL
import Derived.Test.YtingoclokmcmhaaN8
namespace Go.Proofs.Ytingoclokmcmhaa
open Go Go.Am
set_option maxRecDepth 100000
set_option maxHeartbeats 4000000
attribute [local irreducible] amOps amC opCall opIndexAddr opPick retQ opMake opStore amDraw opAppend opLoad opNilCmp opIndex opSlice xQ

def outS (xs : List (Value × List (List D))) : List (List D) := xs.map fun x => [.other x.1]
def LstI (rows : List (List Int)) : VI := NstI 57 1 3 outS (rows.map fun r => r.map intRow)

/-- The count behind some rows. -/
def kS (k : Int) (rows : List (List Int)) : Int := rows.foldl (fun k r => kAt k (1 * r.length)) k
def cntSS (rows : List (List Int)) : Nat := (rows.map List.length).sum
def mkSS (k : Int) (rows : List (List Int)) : List (List Int) := rows.mapIdx fun i r => marksIntX (kS k (rows.take i)) r.length

theorem kS_eq : ∀ (rows : List (List Int)) (k : Int), 0 ≤ k → k + cntSS rows ≤ 9223372036854775807 → kS k rows = k + cntSS rows
  | [], k, _, _ => by simp [kS, cntSS]
  | r :: rs, k, h0, h1 => by
    have hc : cntSS (r :: rs) = r.length + cntSS rs := by simp [cntSS]
    have e : kAt k (1 * r.length) = k + r.length := by rw [kAt_eq h0 _ (by omega)]; omega
    have : kS k (r :: rs) = kS (kAt k (1 * r.length)) rs := rfl
    rw [this, e, kS_eq rs _ (by omega) (by omega)]
    omega
theorem cnt_take (rows : List (List Int)) (i : Nat) : cntSS (rows.take i) ≤ cntSS rows := by
  unfold cntSS
  conv => rhs; rw [← List.take_append_drop i rows]
  rw [List.map_append, List.sum_append]
  omega
theorem kS_next {k : Int} {rows : List (List Int)} {i : Nat} {r : List Int} (h : rows[i]? = some r) : kS k (rows.take (i + 1)) = kAt (kS k (rows.take i)) (1 * r.length) := by
  unfold kS
  rw [List.take_add_one, h]
  simp
theorem kS_all {k : Int} {rows : List (List Int)} {i : Nat} (h : rows.length ≤ i) : kS k (rows.take i) = kS k rows := by rw [List.take_of_length_le h]
theorem mkSS_len (k : Int) (rows : List (List Int)) : (mkSS k rows).length = rows.length := by simp [mkSS]
theorem mkSS_at {k : Int} {rows : List (List Int)} {i : Nat} {r : List Int} (h : rows[i]? = some r) : (mkSS k rows)[i]? = some (marksIntX (kS k (rows.take i)) r.length) := by
  unfold mkSS
  rw [List.getElem?_mapIdx, h]; rfl

/-- The slices with their marks. -/
def mkX (k : Int) (rows : List (List Int)) (xs : List (Value × List (List D))) : List (Value × List (List D)) := List.zipWith (fun x r => (x.1, r.map intRow)) xs (mkSS k rows)
theorem mkX_len {k : Int} {rows : List (List Int)} {xs : List (Value × List (List D))} (h : xs.map (·.2) = rows.map fun r => r.map intRow) : (mkX k rows xs).length = xs.length := by
  have := congrArg List.length h
  simp only [List.length_map] at this
  unfold mkX
  rw [List.length_zipWith, mkSS_len]; omega
theorem mkX_at {k : Int} {rows : List (List Int)} {xs : List (Value × List (List D))} {i : Nat} {x : Value × List (List D)} {r : List Int} (hx : xs[i]? = some x) (hr : rows[i]? = some r) : (mkX k rows xs)[i]? = some (x.1, (marksIntX (kS k (rows.take i)) r.length).map intRow) := by
  unfold mkX
  rw [List.getElem?_zipWith, hx, mkSS_at hr]
theorem mkX_snd {k : Int} {rows : List (List Int)} {xs : List (Value × List (List D))} (h : xs.map (·.2) = rows.map fun r => r.map intRow) : (mkX k rows xs).map (·.2) = (mkSS k rows).map fun r => r.map intRow := by
  have hl := congrArg List.length h
  simp only [List.length_map] at hl
  refine List.ext_getElem? fun i => ?_
  rw [List.getElem?_map, List.getElem?_map]
  cases hx : xs[i]? with
  | none =>
    have : rows[i]? = none := by rw [List.getElem?_eq_none_iff] at hx ⊢; omega
    have h1 : (mkX k rows xs)[i]? = none := by rw [List.getElem?_eq_none_iff, mkX_len h]; exact List.getElem?_eq_none_iff.1 hx
    have h2 : (mkSS k rows)[i]? = none := by rw [List.getElem?_eq_none_iff, mkSS_len]; exact List.getElem?_eq_none_iff.1 this
    rw [h1, h2]; rfl
  | some x =>
    obtain ⟨r, hr⟩ : ∃ r, rows[i]? = some r := ⟨_, List.getElem?_eq_getElem (by rw [← hl]; exact (List.getElem?_eq_some_iff.1 hx).1)⟩
    rw [mkX_at hx hr, mkSS_at hr]; rfl
theorem mkX_fst {k : Int} {rows : List (List Int)} {xs : List (Value × List (List D))} (h : xs.map (·.2) = rows.map fun r => r.map intRow) (i : Nat) : outS (upto (mkX k rows xs) xs i) = outS xs := by
  have hl := mkX_len (k := k) h
  have hl2 := congrArg List.length h
  simp only [List.length_map] at hl2
  refine List.ext_getElem? fun j => ?_
  unfold outS
  rw [List.getElem?_map, List.getElem?_map]
  unfold upto
  rw [List.getElem?_append, List.length_take, List.getElem?_take, List.getElem?_drop]
  by_cases hj : j < min i (mkX k rows xs).length
  · rw [if_pos hj, if_pos (by omega)]
    cases hx : xs[j]? with
    | none => have := List.getElem?_eq_none_iff.1 hx; omega
    | some x =>
      obtain ⟨r, hr⟩ : ∃ r, rows[j]? = some r := ⟨_, List.getElem?_eq_getElem (by rw [← hl2]; exact (List.getElem?_eq_some_iff.1 hx).1)⟩
      rw [mkX_at hx hr]; rfl
  · rw [if_neg hj]
    by_cases hi : i ≤ (mkX k rows xs).length
    · have e : i + (j - min i (mkX k rows xs).length) = j := by omega
      rw [e]
    · rw [List.getElem?_eq_none (by omega), List.getElem?_eq_none (by omega)]
theorem outS_flat (xs : List (Value × List (List D))) {i : Nat} {x : Value × List (List D)} (h : xs[i]? = some x) : (outS xs).flatten[i]? = some (.other x.1) := by
  have : (outS xs).flatten = xs.map fun x => D.other x.1 := by
    unfold outS
    clear h
    induction xs with
    | nil => rfl
    | cons y ys ih => simp only [List.map_cons, List.flatten_cons, List.singleton_append]; rw [ih]
  rw [this, List.getElem?_map, h]; rfl

theorem x33 (xs : List Int) (k : Int) (h0 : 0 ≤ k) (h1 : k ≤ 576460752303423488) (hl : xs.length ≤ 1048576) :
    XOk Try.prog 33 (XI.ext (FlatI 3 1 (xs.map intRow)) (FlatI 3 1 ((marksIntX k xs.length).map intRow))) [.int .i64 k] (XR.imm (.int .i64 (kAt k (1 * xs.length)))) [] :=
  xOk_lent (ds := [.int .i64 k]) (c33 xs k h0 h1 hl) rfl (by simp [marksIntX]) (List.all_eq_true.2 (int_gr _))

theorem join_inn {ti j : Nat} {xs : List (Value × List (List D))} {v : Value} {r : List (List D)} {ys : List (Value × List (List D))} (hy : xs.set j (v, r) = ys) : ∀ w F1 F2, ExtAt (InnO ti 1 xs j) w F1 → ExtAt (FlatI ti 1 r v) w F2 → (∀ b, ¬ (F1 b ∧ F2 b)) → ExtAt (InnI ti 1 ys) w fun b => F1 b ∨ F2 b := by
  subst hy
  exact fun _ _ _ h1 h2 hd => (InnO.put h1.now h2.now fun b hb => hd b ⟨hb.2, hb.1⟩).ext

theorem x15 (rows : List (List Int)) (k : Int) (h0 : 0 ≤ k) (h1 : k + cntSS rows ≤ 576460752303423488) (hl : rows.length ≤ 1048576) (hrl : ∀ r ∈ rows, r.length ≤ 1048576) :
    XOk Try.prog 15 (XI.ext (LstI rows) (LstI (mkSS k rows))) [.int .i64 k] (XR.imm (.int .i64 (kS k rows))) [] := by
  refine xOk_of tyOk Try.func15 rfl rfl (le_of_ble rfl) ?_
  intro v0
  repeat' first | (refine go_nst tyOk (id := 0) (id1 := 1000) (id2 := 1001) rfl rfl rfl rfl ?_; intro xs hxs hsh; obtain ⟨oad, cap, rfl, hsp⟩ := hsh; conv => whnf) | refine go_seq ?_ | refine go_region ?_ | refine go_miss rfl rfl rfl ?_ | refine go_undef rfl rfl rfl ?_ | refine go_draw drawsOk ?_ | ((first | refine go_op rfl ?_ | refine go_nil ?_ | refine go_hit rfl rfl rfl ?_ | refine go_splitT rfl rfl rfl (fun h => ?_) (fun h => ?_) | refine go_splitF rfl rfl rfl (fun h => ?_) (fun h => ?_) | refine go_storeBox rfl rfl rfl rfl rfl rfl ?_ | refine go_dop rfl ?_ | refine go_dhit rfl rfl ?_ | refine go_dmiss rfl rfl ?_ | refine go_dundef rfl rfl ?_ | refine go_dend (by kernel_rfl) ?_ | refine go_pickT rfl ?_ | refine go_pickF rfl ?_ | refine go_pick rfl (fun h => ?_) (fun h => ?_)) <;> conv => whnf) | ((first | refine Or.inl ?_ | refine go_dsplit2 rfl (fun h => ?_) (fun h => ?_) | refine go_loadB ?_ | refine ⟨by kernel_rfl, ?_⟩ | refine go_ret ?_) <;> conv => whnf) | refine go_block ?_ | ((first | refine go_skip ?_ | refine go_exit ?_) <;> conv => whnf) | refine go_true rfl ?_ | refine go_false rfl ?_ | refine go_cond rfl (fun h => ?_) (fun h => ?_) | refine ⟨rfl, ?_⟩ | ((first | refine ⟨trivial, ?_⟩ | refine ⟨le_of_ble rfl, ?_⟩) <;> conv => whnf) | fail
  have hxl : xs.length = rows.length := by have := congrArg List.length hxs; simpa using this
  have hol : (outS xs).length = xs.length := List.length_map _
  refine go_loop (α := Nat) (fun i => i ≤ rows.length) (fun i => rows.length - i)
    (fun i => st Try.f15.ntmps [(0, .imm (.other (.slice oad (outS xs).length cap))), (1, .imm (.int .i64 (kS k (rows.take i)))), (5, .imm (.int .i64 (i : Nat)))]
      [(1000, .ext (FlatI 57 1 (outS xs) (.slice oad (outS xs).length cap))), (1001, .ext (InnI 3 1 (upto (mkX k rows xs) xs i))), (1002, .gone)] [1002]) 0 (Nat.zero_le _) ?_ ?_
  · refine ref_st (fun y => if y = 1002 then 0 else y) rfl ⟨rfl, rfl, rfl, trivial⟩ ⟨rfl, ?_, rfl, trivial⟩ (by simp) rfl (by simp [lookM])
    rw [upto_0]; rfl
  intro i hi
  cases hx : xs[i]? with
  | none =>
    have hge := le_of_at hx
    rw [kS_all (by omega), upto_end (mkX_len hxs) hge]
    repeat' first | (refine go_ext (ext_lenX tyOk rfl rfl rfl ?_); conv => whnf) | refine go_seq ?_ | refine go_region ?_ | refine go_miss rfl rfl rfl ?_ | refine go_undef rfl rfl rfl ?_ | refine go_draw drawsOk ?_ | ((first | refine go_op rfl ?_ | refine go_nil ?_ | refine go_hit rfl rfl rfl ?_ | refine go_splitT rfl rfl rfl (fun h => ?_) (fun h => ?_) | refine go_splitF rfl rfl rfl (fun h => ?_) (fun h => ?_) | refine go_storeBox rfl rfl rfl rfl rfl rfl ?_ | refine go_dop rfl ?_ | refine go_dhit rfl rfl ?_ | refine go_dmiss rfl rfl ?_ | refine go_dundef rfl rfl ?_ | refine go_dend (by kernel_rfl) ?_ | refine go_pickT rfl ?_ | refine go_pickF rfl ?_ | refine go_pick rfl (fun h => ?_) (fun h => ?_)) <;> conv => whnf) | ((first | refine Or.inl ?_ | refine go_dsplit2 rfl (fun h => ?_) (fun h => ?_) | refine go_loadB ?_ | refine ⟨by kernel_rfl, ?_⟩ | refine go_ret ?_) <;> conv => whnf) | refine go_block ?_ | ((first | refine go_skip ?_ | refine go_exit ?_) <;> conv => whnf) | refine go_true rfl ?_ | refine go_false rfl ?_ | refine go_cond rfl (fun h => ?_) (fun h => ?_) | refine ⟨rfl, ?_⟩ | ((first | refine ⟨trivial, ?_⟩ | refine ⟨le_of_ble rfl, ?_⟩) <;> conv => whnf) | fail
    all_goals first
      | (refine ret_x (av := .imm (.int .i64 (kS k rows))) [] [1000, 1001] rfl rfl (by intro e; cases e) rfl rfl (close_imm rfl) (close_nst (outer := outS) (xs := mkX k rows xs) (by rw [← upto_end (mkX_len (k := k) hxs) (Nat.le_refl xs.length), mkX_fst hxs]; rfl) rfl rfl (mkX_snd hxs)) (by simp)
         done)
      | (exfalso; have h' := of_decide_eq_false h; omega)
      | (exfalso; have h' := of_decide_eq_true h; omega)
      | (exfalso; rename_i hq; have h' := of_decide_eq_true hq; omega)
      | (exfalso; rename_i hq; have h' := of_decide_eq_false hq; omega)
      | (exfalso; rename_i hq _; have h' := of_decide_eq_true hq; omega)
      | (exfalso; rename_i hq _; have h' := of_decide_eq_false hq; omega)
      | (exfalso; simp at h; omega)
      | trace_state
  | some x =>
    have hlt := lt_of_at hx
    obtain ⟨b, o, hb⟩ := hsp (by omega)
    subst hb
    obtain ⟨r, hr⟩ : ∃ r, rows[i]? = some r := ⟨_, List.getElem?_eq_getElem (by omega)⟩
    have hx2 : x.2 = r.map intRow := by
      have := congrArg (fun l => l[i]?) hxs
      simp only [List.getElem?_map, hx, hr, Option.map_some, Option.some.injEq] at this
      exact this
    have hlen := hrl r (List.mem_of_getElem? hr)
    have hc1 := cnt_take rows i
    have hk := kS_eq (rows.take i) k h0 (by omega)
    have hX := x33 r (kS k (rows.take i)) (by omega) (by omega) hlen
    rw [← hx2] at hX
    have hup := upto_at (mkX_len (k := k) hxs) hx
    have hset := upto_set (mkX_len (k := k) hxs) hx (mkX_at (k := k) hx hr)
    have hfl := outS_flat xs hx
    have hkn := kS_next (k := k) hr
    have hld := fun w F (h : FlatI 57 1 (outS xs) (.slice (some ⟨b, o, none⟩) (outS xs).length cap) w F) => flat_load (o' := o + ((i : Nat) : Int).toNat * ty57.size) hfl (by show _ + _ * 1 = _; omega) h
    repeat' first | (refine go_ext (ext_lenX tyOk rfl rfl rfl ?_); conv => whnf) | (refine go_ext (ext_idxX tyOk rfl rfl rfl rfl (by omega) (by omega) rfl ?_); conv => whnf) | (refine go_ext (ext_loadX (id := 1000) tyOk rfl (add_spot rfl _) rfl rfl rfl hld rfl ?_); conv => whnf) | (refine go_ext (ext_xcall hX [1001] (InnO 3 1 (upto (mkX k rows xs) xs i) i) (v := x.1) [] (look2 (look_imm _ _ _) (look_imm _ _ _)) (by simp) (.inl rfl) (split_inn rfl hup) (have1 rfl) rfl rfl rfl rfl ?_); intro rr; conv => whnf) | refine go_seq ?_ | refine go_region ?_ | refine go_miss rfl rfl rfl ?_ | refine go_undef rfl rfl rfl ?_ | refine go_draw drawsOk ?_ | ((first | refine go_op rfl ?_ | refine go_nil ?_ | refine go_hit rfl rfl rfl ?_ | refine go_splitT rfl rfl rfl (fun h => ?_) (fun h => ?_) | refine go_splitF rfl rfl rfl (fun h => ?_) (fun h => ?_) | refine go_storeBox rfl rfl rfl rfl rfl rfl ?_ | refine go_dop rfl ?_ | refine go_dhit rfl rfl ?_ | refine go_dmiss rfl rfl ?_ | refine go_dundef rfl rfl ?_ | refine go_dend (by kernel_rfl) ?_ | refine go_pickT rfl ?_ | refine go_pickF rfl ?_ | refine go_pick rfl (fun h => ?_) (fun h => ?_)) <;> conv => whnf) | ((first | refine Or.inl ?_ | refine go_dsplit2 rfl (fun h => ?_) (fun h => ?_) | refine go_loadB ?_ | refine ⟨by kernel_rfl, ?_⟩ | refine go_ret ?_) <;> conv => whnf) | refine go_block ?_ | ((first | refine go_skip ?_ | refine go_exit ?_) <;> conv => whnf) | refine go_true rfl ?_ | refine go_false rfl ?_ | refine go_cond rfl (fun h => ?_) (fun h => ?_) | refine ⟨rfl, ?_⟩ | ((first | refine ⟨trivial, ?_⟩ | refine ⟨le_of_ble rfl, ?_⟩) <;> conv => whnf) | fail
    all_goals first
      | (refine go_next (i + 1) (by omega) (by omega) (Ref.trans (ref_joinX (id1 := rid 3 17 2) (id2 := rid 3 17 1) (id3 := 2000) rfl rfl rfl rfl (join_inn hset)) (ref_st (fun y => if y = 1001 then 2000 else y) rfl ⟨rfl, ?_, next_i (by omega), trivial⟩ ⟨rfl, rfl, rfl, trivial⟩ (by simp) rfl (by simp [lookM])))
         rw [hkn]
         rfl)
      | (exfalso; have h' := of_decide_eq_false h; omega)
      | (exfalso; have h' := of_decide_eq_true h; omega)
      | (exfalso; rename_i hq; have h' := of_decide_eq_true hq; omega)
      | (exfalso; rename_i hq; have h' := of_decide_eq_false hq; omega)
      | (exfalso; rename_i hq _; have h' := of_decide_eq_true hq; omega)
      | (exfalso; rename_i hq _; have h' := of_decide_eq_false hq; omega)
      | (exfalso; simp at h; omega)
      | trace_state
end Go.Proofs.Ytingoclokmcmhaa

