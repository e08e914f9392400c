/- Depots: which are valid; the program and the reference. -/
import Derived.Test.YtkjigbbbobijnaaE0
import Derived.Test.YtkjigbbbobijnaaAmV
namespace Go.Proofs.Ytkjigbbbobijnaa
open Go Go.Am
set_option maxRecDepth 100000
set_option maxHeartbeats 8000000
attribute [local irreducible] amOps amC opCall opIndexAddr opPick retQ opMake opStore amDraw opAppend opLoad opNilCmp opIndex opSlice

theorem go_loadBoxI {T : TypeId → Option TI} {m : Nat → Option O} {tt : TypeId} {K : Eff → Prop} {id off : Nat} {ty : TypeId} {cells : List AV} {ti : TI} {x : AV} (j : Nat) {d : D} (hx : x = .box id off) (hj : off = j) (hm : m id = some (.box ty cells)) (hT : T tt = some ti)
    (ha : ti.agg = false) (hc : cells[j]? = some (.imm d)) (h : K ⟨.imm d, []⟩) : opLoad T m tt x K := by
  subst hx hj
  unfold opLoad
  simp only [hT, hm, ha, hc]
  exact h
/-- A hundred marks. -/
def cel100 (f : Nat → Bool) : List D := (List.range 100).map fun j => .bool (f j)
theorem cel100_at (f : Nat → Bool) {k : Nat} (hk : k < 100) : ((cel100 f).map AV.imm)[k]? = some (.imm (.bool (f k))) := by
  unfold cel100
  simp [hk]
theorem cel100_len (f : Nat → Bool) : ((cel100 f).map AV.imm).length = 100 := by simp [cel100]
theorem cel100_set {f g : Nat → Bool} {k : Nat} (hk : k < 100) (h : ∀ w, w ≠ k → g w = f w) (hg : g k = true) : setAt ((cel100 f).map AV.imm) (0 + k * 1) [.imm (.bool true)] = (cel100 g).map AV.imm := by
  have e : setAt ((cel100 f).map AV.imm) (0 + k * 1) [.imm (.bool true)] = ((cel100 f).map AV.imm).set k (.imm (.bool true)) := by
    unfold setAt
    rw [List.set_eq_take_append_cons_drop, if_pos (by rw [cel100_len]; exact hk)]
    simp
  rw [e]
  refine List.ext_getElem? fun j => ?_
  rw [List.getElem?_set]
  by_cases ej : k = j
  · subst ej
    rw [if_pos rfl, if_pos (by rw [cel100_len]; exact hk), cel100_at g hk, hg]
  · rw [if_neg ej]
    by_cases hj : j < 100
    · rw [cel100_at f hj, cel100_at g hj, h j (fun e => ej e.symm)]
    · rw [List.getElem?_eq_none (by rw [cel100_len]; omega), List.getElem?_eq_none (by rw [cel100_len]; omega)]
def seenF (seen : List Int) (j : Nat) : Bool := seen.any (pInt (j : Nat))
theorem seenF_put (seen : List Int) {v : Int} {k : Nat} (hk : v = (k : Nat)) : (∀ w, w ≠ k → seenF (seen ++ [v]) w = seenF seen w) ∧ seenF (seen ++ [v]) k = true := by
  subst hk
  unfold seenF
  constructor
  · intro w hw
    rw [List.any_append]
    have : ([((k : Nat) : Int)].any (pInt (w : Nat))) = false := by simp [pInt]; omega
    rw [this, Bool.or_false]
  · rw [List.any_append]
    have : ([((k : Nat) : Int)].any (pInt (k : Nat))) = true := by simp [pInt]
    rw [this, Bool.or_true]

theorem ints_row {ts : List (List Int)} {i : Nat} {t : List Int} (h : ts[i]? = some t) : (ts.map intsRow)[((i : Nat) : Int).toNat]? = some [.list (t.map intRow)] := by simp [h, intsRow]
theorem drop_at {α : Type} {xs : List α} {i : Nat} {x : α} (h : xs[i]? = some x) : xs.drop i = x :: xs.drop (i + 1) := by
  obtain ⟨hlt, e⟩ := List.getElem?_eq_some_iff.1 h
  rw [List.drop_eq_getElem_cons hlt, e]
theorem scanD_next {seen : List Int} {ss : List Int} {ts : List (List Int)} {i : Nat} {s : Int} {t : List Int} (hs : ss[i]? = some s) (ht : ts[i]? = some t) :
    scanD seen (ss.drop i) (ts.drop i) = if inR s 0 8 && decide (((t.length : Int)) ≤ s) then (match scanT seen t with | some seen' => scanD seen' (ss.drop (i + 1)) (ts.drop (i + 1)) | none => none) else none := by
  rw [drop_at hs, drop_at ht]
  rfl
theorem scanT_next {seen t : List Int} {k : Nat} {v : Int} (h : t[k]? = some v) : scanT seen (t.drop k) = if vOk seen v then scanT (seen ++ [v]) (t.drop (k + 1)) else none := by
  rw [drop_at h]; rfl
theorem depOk_eq {d : Depot} (h1 : inR d.sizes.length 1 4 = true) (h2 : d.tracks.length = d.sizes.length) : depOk d = (scanD [] d.sizes d.tracks).isSome := by
  unfold depOk
  rw [h1, h2]; simp
theorem depOk_no1 {d : Depot} (h1 : inR d.sizes.length 1 4 = false) : depOk d = false := by unfold depOk; rw [h1]; rfl
theorem depOk_no2 {d : Depot} (h2 : ¬ d.tracks.length = d.sizes.length) : depOk d = false := by unfold depOk; simp [h2]

theorem c12 (d : Depot) (hf : d.fit) : CallOk Try.prog 12 [.imm (.agg d.enc)] { res := [.imm (.bool (depOk d))] } := by
  refine callOk_of tyOk Try.func12 rfl rfl (le_of_ble rfl) (le_of_ble rfl) (mutOk_imm rfl _) ?_
  obtain ⟨f1, f2, f3⟩ := hf
  have el : (d.sizes.map intRow).length = d.sizes.length := List.length_map _
  have et : (d.tracks.map intsRow).length = d.tracks.length := List.length_map _
  have hW : CallOk Try.prog 29 [.imm (.int .i64 ((d.sizes.map intRow).length : Nat)), .imm (.int .i64 1), .imm (.int .i64 4)] { res := [.imm (.bool (inR d.sizes.length 1 4))] } := by rw [el]; exact c29 _ _ _
  cases h1 : inR d.sizes.length 1 4 with
  | false =>
    rw [h1] at hW
    rw [depOk_no1 h1]
    repeat' first | refine go_seq ?_ | refine go_region ?_ | refine go_miss rfl rfl rfl ?_ | refine go_undef rfl rfl rfl ?_ | ((first | refine go_op rfl ?_ | refine go_nil ?_ | refine go_hit rfl rfl rfl ?_ | refine go_splitT rfl rfl rfl (fun h => ?_) (fun h => ?_) | refine go_splitF rfl rfl rfl (fun h => ?_) (fun h => ?_) | refine go_storeBox rfl rfl rfl rfl rfl rfl ?_ | refine go_pickT rfl ?_ | refine go_pickF rfl ?_ | refine go_pick rfl (fun h => ?_) (fun h => ?_) | refine go_call [] (hW) rfl rfl rfl rfl ?_) <;> conv => whnf) | ((first | refine go_loadB ?_ | refine ⟨by kernel_rfl, ?_⟩ | refine go_ret ?_) <;> conv => whnf) | refine go_block ?_ | ((first | refine go_skip ?_ | refine go_exit ?_) <;> conv => whnf) | refine go_true rfl ?_ | refine go_false rfl ?_ | refine go_cond rfl (fun h => ?_) (fun h => ?_) | refine ⟨rfl, ?_⟩ | ((first | refine ⟨trivial, ?_⟩ | refine ⟨le_of_ble rfl, ?_⟩) <;> conv => whnf) | fail
    all_goals first
      | exact ret_imm rfl rfl rfl rfl rfl rfl
      | (exfalso; simp at h; done)
      | trace_state
  | true =>
  rw [h1] at hW
  by_cases h2 : d.tracks.length = d.sizes.length
  case neg =>
    rw [depOk_no2 h2]
    repeat' first | refine go_seq ?_ | refine go_region ?_ | refine go_miss rfl rfl rfl ?_ | refine go_undef rfl rfl rfl ?_ | ((first | refine go_op rfl ?_ | refine go_nil ?_ | refine go_hit rfl rfl rfl ?_ | refine go_splitT rfl rfl rfl (fun h => ?_) (fun h => ?_) | refine go_splitF rfl rfl rfl (fun h => ?_) (fun h => ?_) | refine go_storeBox rfl rfl rfl rfl rfl rfl ?_ | refine go_pickT rfl ?_ | refine go_pickF rfl ?_ | refine go_pick rfl (fun h => ?_) (fun h => ?_) | refine go_call [] (hW) rfl rfl rfl rfl ?_) <;> conv => whnf) | ((first | refine go_loadB ?_ | refine ⟨by kernel_rfl, ?_⟩ | refine go_ret ?_) <;> conv => whnf) | refine go_block ?_ | ((first | refine go_skip ?_ | refine go_exit ?_) <;> conv => whnf) | refine go_true rfl ?_ | refine go_false rfl ?_ | refine go_cond rfl (fun h => ?_) (fun h => ?_) | refine ⟨rfl, ?_⟩ | ((first | refine ⟨trivial, ?_⟩ | refine ⟨le_of_ble rfl, ?_⟩) <;> conv => whnf) | fail
    all_goals first
      | exact ret_imm rfl rfl rfl rfl rfl rfl
      | (exfalso; simp at h; done)
      | (exfalso; simp at h; omega)
      | trace_state
  rw [depOk_eq h1 h2]
  repeat' first | refine go_seq ?_ | refine go_region ?_ | refine go_miss rfl rfl rfl ?_ | refine go_undef rfl rfl rfl ?_ | ((first | refine go_op rfl ?_ | refine go_nil ?_ | refine go_hit rfl rfl rfl ?_ | refine go_splitT rfl rfl rfl (fun h => ?_) (fun h => ?_) | refine go_splitF rfl rfl rfl (fun h => ?_) (fun h => ?_) | refine go_storeBox rfl rfl rfl rfl rfl rfl ?_ | refine go_pickT rfl ?_ | refine go_pickF rfl ?_ | refine go_pick rfl (fun h => ?_) (fun h => ?_) | refine go_call [] (hW) rfl rfl rfl rfl ?_) <;> conv => whnf) | ((first | refine go_loadB ?_ | refine ⟨by kernel_rfl, ?_⟩ | refine go_ret ?_) <;> conv => whnf) | refine go_block ?_ | ((first | refine go_skip ?_ | refine go_exit ?_) <;> conv => whnf) | refine go_true rfl ?_ | refine go_false rfl ?_ | refine go_cond rfl (fun h => ?_) (fun h => ?_) | refine ⟨rfl, ?_⟩ | ((first | refine ⟨trivial, ?_⟩ | refine ⟨le_of_ble rfl, ?_⟩) <;> conv => whnf) | fail
  all_goals try first
    | (exfalso; simp at h; done)
    | (exfalso; simp at h; omega)
  refine go_loop (α := Nat × List Int) (fun x => x.1 ≤ d.sizes.length ∧ scanD x.2 (d.sizes.drop x.1) (d.tracks.drop x.1) = scanD [] d.sizes d.tracks) (fun x => d.sizes.length - x.1)
    (fun x => st Try.f12.ntmps [(1, .box 1000 0), (3, .box 1001 0), (23, .imm (.list (d.sizes.map intRow))), (24, .imm (.int .i64 (d.sizes.map intRow).length)), (25, .imm (.int .i64 (x.1 : Nat)))]
      [(1000, .box 27 (d.enc.map .imm)), (1001, .box 58 ((cel100 (seenF x.2)).map .imm))] []) (0, []) ⟨Nat.zero_le _, rfl⟩ ?_ ?_
  · exact ref_st (fun i => if i = 1000 then nid 1 1 else nid 3 3) rfl ⟨⟨rfl, rfl⟩, ⟨rfl, rfl⟩, rfl, rfl, rfl, trivial⟩ ⟨⟨rfl, wavs_imm _⟩, ⟨rfl, wavs_imm _⟩, trivial⟩ (by simp [nid]) rfl (by simp)
  rintro ⟨i, seen⟩ ⟨hi, hsc⟩
  simp only at hi hsc
  cases hx : d.sizes[i]? with
  | none =>
    have hge := le_of_at hx
    rw [List.drop_eq_nil_of_le hge] at hsc
    rw [← hsc]
    repeat' first | refine go_seq ?_ | refine go_region ?_ | refine go_miss rfl rfl rfl ?_ | refine go_undef rfl rfl rfl ?_ | ((first | refine go_op rfl ?_ | refine go_nil ?_ | refine go_hit rfl rfl rfl ?_ | refine go_splitT rfl rfl rfl (fun h => ?_) (fun h => ?_) | refine go_splitF rfl rfl rfl (fun h => ?_) (fun h => ?_) | refine go_storeBox rfl rfl rfl rfl rfl rfl ?_ | refine go_pickT rfl ?_ | refine go_pickF rfl ?_ | refine go_pick rfl (fun h => ?_) (fun h => ?_)) <;> conv => whnf) | ((first | refine go_loadB ?_ | refine ⟨by kernel_rfl, ?_⟩ | refine go_ret ?_) <;> conv => whnf) | refine go_block ?_ | ((first | refine go_skip ?_ | refine go_exit ?_) <;> conv => whnf) | refine go_true rfl ?_ | refine go_false rfl ?_ | refine go_cond rfl (fun h => ?_) (fun h => ?_) | refine ⟨rfl, ?_⟩ | ((first | refine ⟨trivial, ?_⟩ | refine ⟨le_of_ble rfl, ?_⟩) <;> conv => whnf) | fail
    all_goals first
      | exact ret_imm rfl rfl rfl rfl rfl rfl
      | (exfalso; simp at h; omega)
      | trace_state
  | some s =>
    have hlt := lt_of_at hx
    have ht := trk_at (ts := d.tracks) (i := i) (by omega)
    have htf := f3 _ (List.mem_of_getElem? ht)
    generalize trk d.tracks i = tr at *
    have hr1 := row_at intRow hx
    have hr2 := ints_row ht
    rw [scanD_next hx ht] at hsc
    have hW2 := c29 s 0 8
    have etr : (tr.map intRow).length = tr.length := List.length_map _
    cases b1 : inR s 0 8 with
    | false =>
      rw [b1] at hW2 hsc
      rw [← hsc]
      repeat' first | refine go_seq ?_ | refine go_region ?_ | refine go_miss rfl rfl rfl ?_ | refine go_undef rfl rfl rfl ?_ | ((first | refine go_op rfl ?_ | refine go_nil ?_ | refine go_hit rfl rfl rfl ?_ | refine go_splitT rfl rfl rfl (fun h => ?_) (fun h => ?_) | refine go_splitF rfl rfl rfl (fun h => ?_) (fun h => ?_) | refine go_storeBox rfl rfl rfl rfl rfl rfl ?_ | refine go_pickT rfl ?_ | refine go_pickF rfl ?_ | refine go_pick rfl (fun h => ?_) (fun h => ?_) | refine go_call [] (hW2) rfl rfl rfl rfl ?_ | refine go_idx rfl rfl rfl rfl (by omega) hr1 rfl ?_ | refine go_idx rfl rfl rfl rfl (by omega) hr2 rfl ?_) <;> conv => whnf) | ((first | refine go_loadB ?_ | refine ⟨by kernel_rfl, ?_⟩ | refine go_ret ?_) <;> conv => whnf) | refine go_block ?_ | ((first | refine go_skip ?_ | refine go_exit ?_) <;> conv => whnf) | refine go_true rfl ?_ | refine go_false rfl ?_ | refine go_cond rfl (fun h => ?_) (fun h => ?_) | refine ⟨rfl, ?_⟩ | ((first | refine ⟨trivial, ?_⟩ | refine ⟨le_of_ble rfl, ?_⟩) <;> conv => whnf) | fail
      all_goals first
        | exact ret_imm rfl rfl rfl rfl rfl rfl
        | (exfalso; simp at h; omega)
        | (exfalso; simp at h; done)
        | trace_state
    | true =>
    rw [b1] at hW2 hsc
    by_cases b2 : (tr.length : Int) ≤ s
    case neg =>
      have e : (true && decide ((tr.length : Int) ≤ s)) = false := by simp; omega
      rw [e, if_neg (by simp)] at hsc
      rw [← hsc]
      repeat' first | refine go_seq ?_ | refine go_region ?_ | refine go_miss rfl rfl rfl ?_ | refine go_undef rfl rfl rfl ?_ | ((first | refine go_op rfl ?_ | refine go_nil ?_ | refine go_hit rfl rfl rfl ?_ | refine go_splitT rfl rfl rfl (fun h => ?_) (fun h => ?_) | refine go_splitF rfl rfl rfl (fun h => ?_) (fun h => ?_) | refine go_storeBox rfl rfl rfl rfl rfl rfl ?_ | refine go_pickT rfl ?_ | refine go_pickF rfl ?_ | refine go_pick rfl (fun h => ?_) (fun h => ?_) | refine go_call [] (hW2) rfl rfl rfl rfl ?_ | refine go_idx rfl rfl rfl rfl (by omega) hr1 rfl ?_ | refine go_idx rfl rfl rfl rfl (by omega) hr2 rfl ?_) <;> conv => whnf) | ((first | refine go_loadB ?_ | refine ⟨by kernel_rfl, ?_⟩ | refine go_ret ?_) <;> conv => whnf) | refine go_block ?_ | ((first | refine go_skip ?_ | refine go_exit ?_) <;> conv => whnf) | refine go_true rfl ?_ | refine go_false rfl ?_ | refine go_cond rfl (fun h => ?_) (fun h => ?_) | refine ⟨rfl, ?_⟩ | ((first | refine ⟨trivial, ?_⟩ | refine ⟨le_of_ble rfl, ?_⟩) <;> conv => whnf) | fail
      all_goals first
        | exact ret_imm rfl rfl rfl rfl rfl rfl
        | (exfalso; simp at h; omega)
        | (exfalso; simp only [decide_eq_false_iff_not, decide_eq_true_eq, etr] at h; omega)
        | trace_state
    have e : (true && decide ((tr.length : Int) ≤ s)) = true := by simp; omega
    rw [e, if_pos rfl] at hsc
    repeat' first | refine go_seq ?_ | refine go_region ?_ | refine go_miss rfl rfl rfl ?_ | refine go_undef rfl rfl rfl ?_ | ((first | refine go_op rfl ?_ | refine go_nil ?_ | refine go_hit rfl rfl rfl ?_ | refine go_splitT rfl rfl rfl (fun h => ?_) (fun h => ?_) | refine go_splitF rfl rfl rfl (fun h => ?_) (fun h => ?_) | refine go_storeBox rfl rfl rfl rfl rfl rfl ?_ | refine go_pickT rfl ?_ | refine go_pickF rfl ?_ | refine go_pick rfl (fun h => ?_) (fun h => ?_) | refine go_call [] (hW2) rfl rfl rfl rfl ?_ | refine go_idx rfl rfl rfl rfl (by omega) hr1 rfl ?_ | refine go_idx rfl rfl rfl rfl (by omega) hr2 rfl ?_) <;> conv => whnf) | ((first | refine go_loadB ?_ | refine ⟨by kernel_rfl, ?_⟩ | refine go_ret ?_) <;> conv => whnf) | refine go_block ?_ | ((first | refine go_skip ?_ | refine go_exit ?_) <;> conv => whnf) | refine go_true rfl ?_ | refine go_false rfl ?_ | refine go_cond rfl (fun h => ?_) (fun h => ?_) | refine ⟨rfl, ?_⟩ | ((first | refine ⟨trivial, ?_⟩ | refine ⟨le_of_ble rfl, ?_⟩) <;> conv => whnf) | fail
    all_goals try first
      | (exfalso; simp at h; omega)
      | (exfalso; simp only [decide_eq_false_iff_not, decide_eq_true_eq, etr] at h; omega)
    refine go_loop (α := Nat × List Int) (fun x => x.1 ≤ tr.length ∧ scanT x.2 (tr.drop x.1) = scanT seen tr) (fun x => tr.length - x.1)
      (fun x => st Try.f12.ntmps [(1, .box 1000 0), (3, .box 1001 0), (23, .imm (.list (d.sizes.map intRow))), (24, .imm (.int .i64 (d.sizes.map intRow).length)), (25, .imm (.int .i64 (i : Nat))), (47, .imm (.list (tr.map intRow))), (48, .imm (.int .i64 (tr.map intRow).length)), (49, .imm (.int .i64 (x.1 : Nat)))]
        [(1000, .box 27 (d.enc.map .imm)), (1001, .box 58 ((cel100 (seenF x.2)).map .imm))] []) (0, seen) ⟨Nat.zero_le _, rfl⟩ ?_ ?_
    · exact ref_st id rfl ⟨⟨rfl, rfl⟩, ⟨rfl, rfl⟩, rfl, rfl, rfl, rfl, rfl, rfl, trivial⟩ ⟨⟨rfl, wavs_imm _⟩, ⟨rfl, wavs_imm _⟩, trivial⟩ (by simp) rfl (by simp)
    rintro ⟨k, sn⟩ ⟨hk, hst⟩
    simp only at hk hst
    cases hv : tr[k]? with
    | none =>
      have hge := le_of_at hv
      rw [List.drop_eq_nil_of_le hge] at hst
      rw [← hst] at hsc
      repeat' first | refine go_seq ?_ | refine go_region ?_ | refine go_miss rfl rfl rfl ?_ | refine go_undef rfl rfl rfl ?_ | ((first | refine go_op rfl ?_ | refine go_nil ?_ | refine go_hit rfl rfl rfl ?_ | refine go_splitT rfl rfl rfl (fun h => ?_) (fun h => ?_) | refine go_splitF rfl rfl rfl (fun h => ?_) (fun h => ?_) | refine go_storeBox rfl rfl rfl rfl rfl rfl ?_ | refine go_pickT rfl ?_ | refine go_pickF rfl ?_ | refine go_pick rfl (fun h => ?_) (fun h => ?_)) <;> conv => whnf) | ((first | refine go_loadB ?_ | refine ⟨by kernel_rfl, ?_⟩ | refine go_ret ?_) <;> conv => whnf) | refine go_block ?_ | ((first | refine go_skip ?_ | refine go_exit ?_) <;> conv => whnf) | refine go_true rfl ?_ | refine go_false rfl ?_ | refine go_cond rfl (fun h => ?_) (fun h => ?_) | refine ⟨rfl, ?_⟩ | ((first | refine ⟨trivial, ?_⟩ | refine ⟨le_of_ble rfl, ?_⟩) <;> conv => whnf) | fail
      all_goals first
        | (refine go_next (i + 1, sn) ⟨by simp only; omega, hsc⟩ (by simp only; omega) (ref_st id rfl ⟨⟨rfl, rfl⟩, ⟨rfl, rfl⟩, rfl, rfl, next_i (by omega), trivial⟩ ⟨⟨rfl, wavs_imm _⟩, ⟨rfl, wavs_imm _⟩, trivial⟩ (by simp) rfl (by simp)); done)
        | (exfalso; simp at h; omega)
        | trace_state
    | some v =>
      have hklt := lt_of_at hv
      have hr3 := row_at intRow hv
      rw [scanT_next hv] at hst
      have hW3 := c29 v 1 99
      cases b3 : inR v 1 99 with
      | false =>
        rw [b3] at hW3
        have e3 : vOk sn v = false := by unfold vOk; rw [b3]; rfl
        rw [e3, if_neg (by simp)] at hst
        rw [← hst] at hsc
        rw [← hsc]
        repeat' first | refine go_seq ?_ | refine go_region ?_ | refine go_miss rfl rfl rfl ?_ | refine go_undef rfl rfl rfl ?_ | ((first | refine go_op rfl ?_ | refine go_nil ?_ | refine go_hit rfl rfl rfl ?_ | refine go_splitT rfl rfl rfl (fun h => ?_) (fun h => ?_) | refine go_splitF rfl rfl rfl (fun h => ?_) (fun h => ?_) | refine go_storeBox rfl rfl rfl rfl rfl rfl ?_ | refine go_pickT rfl ?_ | refine go_pickF rfl ?_ | refine go_pick rfl (fun h => ?_) (fun h => ?_) | refine go_call [] (hW3) rfl rfl rfl rfl ?_ | refine go_idx rfl rfl rfl rfl (by omega) hr3 rfl ?_) <;> conv => whnf) | ((first | refine go_loadB ?_ | refine ⟨by kernel_rfl, ?_⟩ | refine go_ret ?_) <;> conv => whnf) | refine go_block ?_ | ((first | refine go_skip ?_ | refine go_exit ?_) <;> conv => whnf) | refine go_true rfl ?_ | refine go_false rfl ?_ | refine go_cond rfl (fun h => ?_) (fun h => ?_) | refine ⟨rfl, ?_⟩ | ((first | refine ⟨trivial, ?_⟩ | refine ⟨le_of_ble rfl, ?_⟩) <;> conv => whnf) | fail
        all_goals first
          | exact ret_imm rfl rfl rfl rfl rfl rfl
          | (exfalso; simp at h; omega)
          | (exfalso; simp at h; done)
          | trace_state
      | true =>
      rw [b3] at hW3
      have hv19 : 1 ≤ v ∧ v ≤ 99 := by simpa [inR] using b3
      have hij : v = ((v.toNat : Nat) : Int) := by omega
      have h100 : v.toNat < 100 := by omega
      have hsn : seenF sn v.toNat = sn.any (pInt v) := by unfold seenF; rw [← hij]
      cases b4 : sn.any (pInt v) with
      | true =>
        have e3 : vOk sn v = false := by unfold vOk; rw [b3, b4]; rfl
        rw [e3, if_neg (by simp)] at hst
        rw [← hst] at hsc
        rw [← hsc]
        have hc : ((cel100 (seenF sn)).map AV.imm)[v.toNat]? = some (.imm (.bool true)) := by rw [cel100_at _ h100, hsn, b4]
        repeat' first | refine go_seq ?_ | refine go_region ?_ | refine go_miss rfl rfl rfl ?_ | refine go_undef rfl rfl rfl ?_ | ((first | refine go_op rfl ?_ | refine go_nil ?_ | refine go_hit rfl rfl rfl ?_ | refine go_splitT rfl rfl rfl (fun h => ?_) (fun h => ?_) | refine go_splitF rfl rfl rfl (fun h => ?_) (fun h => ?_) | refine go_storeBox rfl rfl rfl rfl rfl rfl ?_ | refine go_pickT rfl ?_ | refine go_pickF rfl ?_ | refine go_pick rfl (fun h => ?_) (fun h => ?_) | refine go_call [] (hW3) rfl rfl rfl rfl ?_ | refine go_idx rfl rfl rfl rfl (by omega) hr3 rfl ?_ | refine go_idxBoxI (j := v.toNat) rfl rfl hij rfl rfl rfl h100 ?_ | refine go_loadBoxI v.toNat rfl (by show 0 + v.toNat * 1 = v.toNat; omega) rfl rfl rfl hc ?_) <;> conv => whnf) | ((first | refine go_loadB ?_ | refine ⟨by kernel_rfl, ?_⟩ | refine go_ret ?_) <;> conv => whnf) | refine go_block ?_ | ((first | refine go_skip ?_ | refine go_exit ?_) <;> conv => whnf) | refine go_true rfl ?_ | refine go_false rfl ?_ | refine go_cond rfl (fun h => ?_) (fun h => ?_) | refine ⟨rfl, ?_⟩ | ((first | refine ⟨trivial, ?_⟩ | refine ⟨le_of_ble rfl, ?_⟩) <;> conv => whnf) | fail
        all_goals first
          | exact ret_imm rfl rfl rfl rfl rfl rfl
          | (exfalso; simp at h; omega)
          | (exfalso; simp at h; done)
          | trace_state
      | false =>
        have e3 : vOk sn v = true := by unfold vOk; rw [b3, b4]; rfl
        rw [e3, if_pos rfl] at hst
        have hc : ((cel100 (seenF sn)).map AV.imm)[v.toNat]? = some (.imm (.bool false)) := by rw [cel100_at _ h100, hsn, b4]
        obtain ⟨p1, p2⟩ := seenF_put sn hij
        have hset := cel100_set (f := seenF sn) (g := seenF (sn ++ [v])) h100 p1 p2
        have hcl : 0 + v.toNat * 1 + 1 ≤ ((cel100 (seenF sn)).map AV.imm).length := by rw [cel100_len]; omega
        repeat' first | refine go_seq ?_ | refine go_region ?_ | refine go_miss rfl rfl rfl ?_ | refine go_undef rfl rfl rfl ?_ | ((first | refine go_op rfl ?_ | refine go_nil ?_ | refine go_hit rfl rfl rfl ?_ | refine go_splitT rfl rfl rfl (fun h => ?_) (fun h => ?_) | refine go_splitF rfl rfl rfl (fun h => ?_) (fun h => ?_) | refine go_storeBox rfl rfl rfl rfl rfl rfl ?_ | refine go_pickT rfl ?_ | refine go_pickF rfl ?_ | refine go_pick rfl (fun h => ?_) (fun h => ?_) | refine go_call [] (hW3) rfl rfl rfl rfl ?_ | refine go_idx rfl rfl rfl rfl (by omega) hr3 rfl ?_ | refine go_idxBoxI (j := v.toNat) rfl rfl hij rfl rfl rfl h100 ?_ | refine go_loadBoxI v.toNat rfl (by show 0 + v.toNat * 1 = v.toNat; omega) rfl rfl rfl hc ?_ | refine go_storeBoxI rfl rfl rfl rfl rfl hcl hset ?_) <;> conv => whnf) | ((first | refine go_loadB ?_ | refine ⟨by kernel_rfl, ?_⟩ | refine go_ret ?_) <;> conv => whnf) | refine go_block ?_ | ((first | refine go_skip ?_ | refine go_exit ?_) <;> conv => whnf) | refine go_true rfl ?_ | refine go_false rfl ?_ | refine go_cond rfl (fun h => ?_) (fun h => ?_) | refine ⟨rfl, ?_⟩ | ((first | refine ⟨trivial, ?_⟩ | refine ⟨le_of_ble rfl, ?_⟩) <;> conv => whnf) | fail
        all_goals first
          | (refine go_next (k + 1, sn ++ [v]) ⟨by simp only; omega, hst⟩ (by simp only; omega) (ref_st id rfl ⟨⟨rfl, rfl⟩, ⟨rfl, rfl⟩, rfl, rfl, rfl, rfl, rfl, next_i (by omega), trivial⟩ ⟨⟨rfl, wavs_imm _⟩, ⟨rfl, wavs_imm _⟩, trivial⟩ (by simp) rfl (by simp)); done)
          | (exfalso; simp at h; omega)
          | (exfalso; simp at h; done)
          | trace_state
end Go.Proofs.Ytkjigbbbobijnaa

