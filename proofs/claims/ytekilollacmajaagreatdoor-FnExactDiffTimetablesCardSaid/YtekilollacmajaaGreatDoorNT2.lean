/- The text of a network: the reference's. -/
import Derived.Test.YtekilollacmajaaGreatDoorNT0
namespace Go.Proofs.YtekilollacmajaaGreatDoor
open Go Go.Am
set_option maxRecDepth 100000
set_option maxHeartbeats 8000000
attribute [local irreducible] amOps amC opCall opIndexAddr opPick retQ opMake opStore amDraw opAppend opLoad opNilCmp opIndex opSlice

theorem ofL_str (A : List UInt8) (s : ByteArray) : ofL A ++ s = ofL (A ++ bytes s) := ofL_app A (bytes s)
theorem ref_a1 {n : Network} {i : Nat} {s : ByteArray} (h : n.stops[i]? = some s) : ofL (stopsN n i) ++ ofL [115, 116, 111, 112, 32] ++ s ++ ofL [10] = ofL (stopsN n (i + 1)) := by
  rw [stopsN_next h, ofL_app, ofL_str, ofL_app]
  unfold stopT
  simp only [List.append_assoc]
theorem ref_a2 (n : Network) (l : Line) (i : Nat) : ofL (stopsA n ++ linesN n i) ++ ofL [108, 105, 110, 101, 32] ++ l.name = ofL (stopsA n ++ linesN n i ++ headT l ++ lineN n l 0 ++ runN l 0) := by
  rw [ofL_app, ofL_str]
  show ofL (_ ++ [108, 105, 110, 101, 32] ++ bytes l.name) = ofL (_ ++ headT l ++ [] ++ [])
  unfold headT
  simp only [List.append_nil, List.append_assoc]
theorem ref_a3 (n : Network) (l : Line) (A : List UInt8) {k : Nat} {x : ByteArray} {s : Int} (hk : k ≤ l.runs.length) (h1 : l.stops[k]? = some s) (h2 : n.stops[s.toNat]? = some x) : ofL (A ++ lineN n l k ++ runN l k) ++ ofL [32] ++ x = ofL (A ++ lineN n l (k + 1)) := by
  rw [ofL_app, ofL_str, mid_run hk]
  show _ = ofL (A ++ (lineN n l k ++ midT l k ++ (32 :: stpT n (l.stops.getD k 0))))
  rw [getD_at h1]
  unfold stpT
  rw [h2]
  simp only [List.append_assoc, List.singleton_append]
theorem ref_a4 (n : Network) (l : Line) (A : List UInt8) {k : Nat} {r : Int} (h3 : l.runs[k]? = some r) : ofL (A ++ lineN n l (k + 1)) ++ ofL [32] ++ ofL (numT r.toNat) = ofL (A ++ lineN n l (k + 1) ++ runN l (k + 1)) := by
  rw [ofL_app, ofL_app]
  show _ = ofL (_ ++ (if k < l.runs.length then 32 :: runT (l.runs.getD k 0) else []))
  rw [if_pos (List.getElem?_eq_some_iff.1 h3).1, getD_at h3]
  unfold runT
  simp only [List.append_assoc, List.singleton_append]
theorem ref_a5 {n : Network} {l : Line} {i : Nat} (h : n.lines[i]? = some l) (hr : l.runs.length < l.stops.length) : ofL (stopsA n ++ linesN n i ++ headT l ++ lineN n l l.stops.length ++ runN l l.stops.length) ++ ofL [10] = ofL (stopsA n ++ linesN n (i + 1)) := by
  rw [linesN_next h, run_none hr, ofL_app]
  unfold lineT
  simp only [List.append_assoc, List.append_nil]

theorem c16 (n : Network) (hf : n.fit) (hn : NFit n) : CallOk Tryz.prog 16 [.imm (.agg n.enc)] { res := [.imm (.str (ofL (netT n)))] } := by
  refine callOk_of tyOk Tryz.func16 rfl rfl (le_of_ble rfl) (le_of_ble rfl) (mutOk_imm rfl _) ?_
  obtain ⟨f1, _, f2, f3⟩ := hf
  repeat' first | refine go_seq ?_ | refine go_region ?_ | refine go_draw drawsOk ?_ | ((first | refine go_op rfl ?_ | refine go_nil ?_ | refine go_storeBox rfl rfl rfl rfl rfl rfl ?_ | refine go_dop rfl ?_ | refine go_dend (by kernel_rfl) ?_) <;> conv => whnf) | ((first | refine go_loadB ?_ | refine ⟨by kernel_rfl, ?_⟩ | refine go_ret ?_) <;> conv => whnf) | refine go_block ?_ | ((first | refine go_skip ?_ | refine go_exit ?_) <;> conv => whnf) | refine go_true rfl ?_ | refine go_false rfl ?_ | refine go_cond rfl (fun h => ?_) (fun h => ?_) | refine ⟨rfl, ?_⟩ | ((first | refine ⟨trivial, ?_⟩ | refine ⟨le_of_ble rfl, ?_⟩) <;> conv => whnf) | fail
  refine go_loop (α := Nat) (fun i => i ≤ n.stops.length) (fun i => n.stops.length - i)
    (fun i => st Tryz.f16.ntmps [(1, .box 1000 0), (3, .imm (.str (ofL (stopsN n i)))), (4, .imm (.int .i64 (i : Nat)))]
      [(1000, .box 35 (n.enc.map .imm))] []) 0 (Nat.zero_le _) ?_ ?_
  · exact ref_st (fun y => nid 1 1) rfl ⟨⟨rfl, rfl⟩, rfl, rfl, trivial⟩ ⟨⟨rfl, wavs_imm _⟩, trivial⟩ (by simp [nid]) rfl (by simp)
  intro i hi
  cases hx : n.stops[i]? with
  | some s =>
    have hlt := lt_of_at hx
    have hr := row_at strRow hx
    have hl8 := hn.st s (List.mem_of_getElem? hx)
    have hal := stopsN_len hn i
    have h1 : (ofL (stopsN n i)).size + (ofL [115, 116, 111, 112, 32]).size ≤ 4611686018427387904 := by rw [ofL_size, ofL_size]; simp only [List.length_cons, List.length_nil]; omega
    have h2 : (ofL (stopsN n i) ++ ofL [115, 116, 111, 112, 32]).size + s.size ≤ 4611686018427387904 := by rw [ByteArray.size_append, ofL_size, ofL_size]; simp only [List.length_cons, List.length_nil]; omega
    have h3 : (ofL (stopsN n i) ++ ofL [115, 116, 111, 112, 32] ++ s).size + (ofL [10]).size ≤ 4611686018427387904 := by rw [ByteArray.size_append, ByteArray.size_append, ofL_size, ofL_size, ofL_size]; simp only [List.length_cons, List.length_nil]; omega
    have hnx := ref_a1 hx
    repeat' first | refine go_seq ?_ | refine go_region ?_ | refine go_draw drawsOk ?_ | ((first | refine go_op rfl ?_ | refine go_nil ?_ | refine go_storeBox rfl rfl rfl rfl rfl rfl ?_ | refine go_dop rfl ?_ | refine go_dend (by kernel_rfl) ?_ | refine go_idx rfl rfl rfl rfl (by omega) hr rfl ?_ | refine ⟨h1, ?_⟩ | refine ⟨h2, ?_⟩ | refine ⟨h3, ?_⟩) <;> conv => whnf) | ((first | refine go_loadB ?_ | refine ⟨by kernel_rfl, ?_⟩ | refine go_ret ?_) <;> conv => whnf) | refine go_block ?_ | ((first | refine go_skip ?_ | refine go_exit ?_) <;> conv => whnf) | refine go_true rfl ?_ | refine go_false rfl ?_ | refine go_cond rfl (fun h => ?_) (fun h => ?_) | refine ⟨rfl, ?_⟩ | ((first | refine ⟨trivial, ?_⟩ | refine ⟨le_of_ble rfl, ?_⟩) <;> conv => whnf) | fail
    all_goals first
      | (refine go_next (i + 1) (by omega) (by omega) (ref_st id rfl ⟨⟨rfl, rfl⟩, ?_, next_i (by omega), trivial⟩ ⟨⟨rfl, wavs_imm _⟩, trivial⟩ (by simp [nid]) rfl (by simp))
         rw [← hnx]
         rfl)
      | (exfalso; have h' := of_decide_eq_false h; omega)
      | (exfalso; have h' := of_decide_eq_true h; omega)
      | (exfalso; rename_i hq; have h' := of_decide_eq_true hq; omega)
      | (exfalso; rename_i hq; have h' := of_decide_eq_false hq; omega)
      | (exfalso; rename_i hq _; have h' := of_decide_eq_true hq; omega)
      | (exfalso; rename_i hq _; have h' := of_decide_eq_false hq; omega)
      | (exfalso; simp at h; done)
      | (exfalso; simp at h; omega)
      | trace_state
  | none =>
    have hge := le_of_at hx
    rw [stopsN_all hge]
    repeat' first | refine go_seq ?_ | refine go_region ?_ | refine go_draw drawsOk ?_ | ((first | refine go_op rfl ?_ | refine go_nil ?_ | refine go_storeBox rfl rfl rfl rfl rfl rfl ?_ | refine go_dop rfl ?_ | refine go_dend (by kernel_rfl) ?_) <;> conv => whnf) | ((first | refine go_loadB ?_ | refine ⟨by kernel_rfl, ?_⟩ | refine go_ret ?_) <;> conv => whnf) | refine go_block ?_ | ((first | refine go_skip ?_ | refine go_exit ?_) <;> conv => whnf) | refine go_true rfl ?_ | refine go_false rfl ?_ | refine go_cond rfl (fun h => ?_) (fun h => ?_) | refine ⟨rfl, ?_⟩ | ((first | refine ⟨trivial, ?_⟩ | refine ⟨le_of_ble rfl, ?_⟩) <;> conv => whnf) | fail
    all_goals try first
      | (exfalso; have h' := of_decide_eq_false h; omega)
      | (exfalso; have h' := of_decide_eq_true h; omega)
      | (exfalso; rename_i hq; have h' := of_decide_eq_true hq; omega)
      | (exfalso; rename_i hq; have h' := of_decide_eq_false hq; omega)
      | (exfalso; rename_i hq _; have h' := of_decide_eq_true hq; omega)
      | (exfalso; rename_i hq _; have h' := of_decide_eq_false hq; omega)
      | (exfalso; simp at h; done)
      | (exfalso; simp at h; omega)
    refine go_loop (α := Nat) (fun i => i ≤ n.lines.length) (fun i => n.lines.length - i)
      (fun i => st Tryz.f16.ntmps [(1, .box 1000 0), (3, .imm (.str (ofL (stopsA n ++ linesN n i)))), (5, .imm (.int .i64 (i : Nat)))]
        [(1000, .box 35 (n.enc.map .imm))] []) 0 (Nat.zero_le _) ?_ ?_
    · rw [show stopsA n ++ linesN n 0 = stopsA n from List.append_nil _]
      exact ref_st id rfl ⟨⟨rfl, rfl⟩, rfl, rfl, trivial⟩ ⟨⟨rfl, wavs_imm _⟩, trivial⟩ (by simp [nid]) rfl (by simp)
    intro i hi
    cases hy : n.lines[i]? with
    | none =>
      have hge := le_of_at hy
      rw [linesN_all hge]
      repeat' first | refine go_seq ?_ | refine go_region ?_ | refine go_draw drawsOk ?_ | ((first | refine go_op rfl ?_ | refine go_nil ?_ | refine go_storeBox rfl rfl rfl rfl rfl rfl ?_ | refine go_dop rfl ?_ | refine go_dend (by kernel_rfl) ?_) <;> conv => whnf) | ((first | refine go_loadB ?_ | refine ⟨by kernel_rfl, ?_⟩ | refine go_ret ?_) <;> conv => whnf) | refine go_block ?_ | ((first | refine go_skip ?_ | refine go_exit ?_) <;> conv => whnf) | refine go_true rfl ?_ | refine go_false rfl ?_ | refine go_cond rfl (fun h => ?_) (fun h => ?_) | refine ⟨rfl, ?_⟩ | ((first | refine ⟨trivial, ?_⟩ | refine ⟨le_of_ble rfl, ?_⟩) <;> conv => whnf) | fail
      all_goals first
        | exact ret_imm rfl rfl rfl rfl rfl rfl
        | (exfalso; have h' := of_decide_eq_false h; omega)
        | (exfalso; have h' := of_decide_eq_true h; omega)
        | (exfalso; rename_i hq; have h' := of_decide_eq_true hq; omega)
        | (exfalso; rename_i hq; have h' := of_decide_eq_false hq; omega)
        | (exfalso; rename_i hq _; have h' := of_decide_eq_true hq; omega)
        | (exfalso; rename_i hq _; have h' := of_decide_eq_false hq; omega)
        | (exfalso; simp at h; done)
        | (exfalso; simp at h; omega)
        | trace_state
    | some l =>
      have hlt := lt_of_at hy
      have hrw := row_at Line.enc hy
      have hmem := List.mem_of_getElem? hy
      have hlf := f3 l hmem
      obtain ⟨q1, q2, q3, q4⟩ := hn.ln l hmem
      have hal : (stopsA n ++ linesN n i).length ≤ 700 := by rw [List.length_append]; have := stopsN_len hn n.stops.length; have := linesN_len hn i; unfold stopsA; omega
      have hhl := headT_len hn hmem
      have h1 : (ofL (stopsA n ++ linesN n i)).size + (ofL [108, 105, 110, 101, 32]).size ≤ 4611686018427387904 := by rw [ofL_size, ofL_size]; simp only [List.length_cons, List.length_nil]; omega
      have h2 : (ofL (stopsA n ++ linesN n i) ++ ofL [108, 105, 110, 101, 32]).size + l.name.size ≤ 4611686018427387904 := by rw [ByteArray.size_append, ofL_size, ofL_size]; simp only [List.length_cons, List.length_nil]; omega
      have hnx := ref_a2 n l i
      repeat' first | refine go_seq ?_ | refine go_region ?_ | refine go_draw drawsOk ?_ | ((first | refine go_op rfl ?_ | refine go_nil ?_ | refine go_storeBox rfl rfl rfl rfl rfl rfl ?_ | refine go_dop rfl ?_ | refine go_dend (by kernel_rfl) ?_ | refine go_idx rfl rfl rfl rfl (by omega) hrw rfl ?_ | refine ⟨h1, ?_⟩ | refine ⟨h2, ?_⟩) <;> conv => whnf) | ((first | refine go_loadB ?_ | refine ⟨by kernel_rfl, ?_⟩ | refine go_ret ?_) <;> conv => whnf) | refine go_block ?_ | ((first | refine go_skip ?_ | refine go_exit ?_) <;> conv => whnf) | refine go_true rfl ?_ | refine go_false rfl ?_ | refine go_cond rfl (fun h => ?_) (fun h => ?_) | refine ⟨rfl, ?_⟩ | ((first | refine ⟨trivial, ?_⟩ | refine ⟨le_of_ble rfl, ?_⟩) <;> conv => whnf) | fail
      all_goals try first
        | (exfalso; have h' := of_decide_eq_false h; omega)
        | (exfalso; have h' := of_decide_eq_true h; omega)
        | (exfalso; rename_i hq; have h' := of_decide_eq_true hq; omega)
        | (exfalso; rename_i hq; have h' := of_decide_eq_false hq; omega)
        | (exfalso; rename_i hq _; have h' := of_decide_eq_true hq; omega)
        | (exfalso; rename_i hq _; have h' := of_decide_eq_false hq; omega)
        | (exfalso; simp at h; done)
        | (exfalso; simp at h; omega)
      refine go_loop (α := Nat) (fun k => k ≤ l.stops.length) (fun k => l.stops.length - k)
        (fun k => st Tryz.f16.ntmps [(1, .box 1000 0), (3, .imm (.str (ofL (stopsA n ++ linesN n i ++ headT l ++ lineN n l k ++ runN l k)))), (5, .imm (.int .i64 (i : Nat))), (6, .box 1001 0), (7, .imm (.int .i64 (k : Nat)))]
          [(1000, .box 35 (n.enc.map .imm)), (1001, .box 69 (l.enc.map .imm))] []) 0 (Nat.zero_le _) ?_ ?_
      · refine ref_st (fun y => if y = 1001 then nid 3 6 else y) rfl ⟨⟨rfl, rfl⟩, ?_, rfl, ⟨rfl, rfl⟩, rfl, trivial⟩ ⟨⟨rfl, wavs_imm _⟩, ⟨rfl, wavs_imm _⟩, trivial⟩ (by simp [nid]) rfl (by simp)
        rw [← hnx]
        rfl
      intro k hk
      have hal2 : (stopsA n ++ linesN n i ++ headT l ++ lineN n l k).length ≤ 800 := by rw [List.length_append, List.length_append]; have := lineN_len hn hmem k; omega
      cases hz : l.stops[k]? with
      | none =>
        have hge := le_of_at hz
        have hke : k = l.stops.length := by omega
        subst hke
        have hrn := run_none (l := l) (k := l.stops.length) (by omega)
        have hw1 : (ofL (stopsA n ++ linesN n i ++ headT l ++ lineN n l l.stops.length ++ runN l l.stops.length)).size + (ofL [10]).size ≤ 4611686018427387904 := by rw [hrn, List.append_nil, ofL_size, ofL_size]; simp only [List.length_cons, List.length_nil]; omega
        have hnx := ref_a5 hy (by omega)
        repeat' first | refine go_seq ?_ | refine go_region ?_ | refine go_draw drawsOk ?_ | ((first | refine go_op rfl ?_ | refine go_nil ?_ | refine go_storeBox rfl rfl rfl rfl rfl rfl ?_ | refine go_dop rfl ?_ | refine go_dend (by kernel_rfl) ?_ | refine ⟨hw1, ?_⟩) <;> conv => whnf) | ((first | refine go_loadB ?_ | refine ⟨by kernel_rfl, ?_⟩ | refine go_ret ?_) <;> conv => whnf) | refine go_block ?_ | ((first | refine go_skip ?_ | refine go_exit ?_) <;> conv => whnf) | refine go_true rfl ?_ | refine go_false rfl ?_ | refine go_cond rfl (fun h => ?_) (fun h => ?_) | refine ⟨rfl, ?_⟩ | ((first | refine ⟨trivial, ?_⟩ | refine ⟨le_of_ble rfl, ?_⟩) <;> conv => whnf) | fail
        all_goals first
          | (refine go_next (i + 1) (by omega) (by omega) (ref_st id rfl ⟨⟨rfl, rfl⟩, ?_, next_i (by omega), trivial⟩ ⟨⟨rfl, wavs_imm _⟩, trivial⟩ (by simp [nid]) rfl (by simp))
             rw [← hnx]
             rfl)
          | (exfalso; have h' := of_decide_eq_false h; omega)
          | (exfalso; have h' := of_decide_eq_true h; omega)
          | (exfalso; rename_i hq; have h' := of_decide_eq_true hq; omega)
          | (exfalso; rename_i hq; have h' := of_decide_eq_false hq; omega)
          | (exfalso; rename_i hq _; have h' := of_decide_eq_true hq; omega)
          | (exfalso; rename_i hq _; have h' := of_decide_eq_false hq; omega)
          | (exfalso; simp at h; done)
          | (exfalso; simp at h; omega)
          | trace_state
      | some s =>
        have hlt2 := lt_of_at hz
        have hr1 := row_at intRow hz
        obtain ⟨hs0, x, hsx⟩ := hn.sp l hmem k s hz
        have hxl := hn.st x (List.mem_of_getElem? hsx)
        have hrs : (n.stops.map strRow)[s.toNat]? = some (strRow x) := by rw [List.getElem?_map, hsx]; rfl
        have hrl : (runN l k).length ≤ 3 := by rw [mid_run (by omega)]; exact midT_len hn hmem k
        have h1 : (ofL (stopsA n ++ linesN n i ++ headT l ++ lineN n l k ++ runN l k)).size + (ofL [32]).size ≤ 4611686018427387904 := by rw [ofL_size, ofL_size, List.length_append]; simp only [List.length_cons, List.length_nil]; omega
        have h2 : (ofL (stopsA n ++ linesN n i ++ headT l ++ lineN n l k ++ runN l k) ++ ofL [32]).size + x.size ≤ 4611686018427387904 := by rw [ByteArray.size_append, ofL_size, ofL_size, List.length_append]; simp only [List.length_cons, List.length_nil]; omega
        have e3 := ref_a3 n l (stopsA n ++ linesN n i ++ headT l) (k := k) (by omega) hz hsx
        have hl3 : (stopsA n ++ linesN n i ++ headT l ++ lineN n l (k + 1)).length ≤ 900 := by rw [List.length_append, List.length_append]; have := lineN_len hn hmem (k + 1); omega
        by_cases hkr : k < l.runs.length
        · obtain ⟨r, hr⟩ : ∃ r, l.runs[k]? = some r := ⟨_, List.getElem?_eq_getElem hkr⟩
          have hrr := hn.rn l hmem r (List.mem_of_getElem? hr)
          have hrun := row_at intRow hr
          have hc := c35 r.toNat (by omega)
          rw [show ((r.toNat : Nat) : Int) = r by omega] at hc
          have hnl : (numT r.toNat).length ≤ 2 := runT_len hrr.2
          have h3 : (ofL (stopsA n ++ linesN n i ++ headT l ++ lineN n l k ++ runN l k) ++ ofL [32] ++ x).size + (ofL [32]).size ≤ 4611686018427387904 := by rw [e3, ofL_size, ofL_size]; simp only [List.length_cons, List.length_nil]; omega
          have h4 : (ofL (stopsA n ++ linesN n i ++ headT l ++ lineN n l k ++ runN l k) ++ ofL [32] ++ x ++ ofL [32]).size + (ofL (numT r.toNat)).size ≤ 4611686018427387904 := by rw [e3, ByteArray.size_append, ofL_size, ofL_size, ofL_size]; simp only [List.length_cons, List.length_nil]; omega
          have hnx := ref_a4 n l (stopsA n ++ linesN n i ++ headT l) hr
          rw [← e3] at hnx
          repeat' first | refine go_seq ?_ | refine go_region ?_ | refine go_draw drawsOk ?_ | ((first | refine go_op rfl ?_ | refine go_nil ?_ | refine go_storeBox rfl rfl rfl rfl rfl rfl ?_ | refine go_dop rfl ?_ | refine go_dend (by kernel_rfl) ?_ | refine go_call [] (hc) rfl rfl rfl rfl ?_ | refine go_idx rfl rfl rfl rfl (by omega) hr1 rfl ?_ | refine go_idx rfl rfl rfl rfl hs0 hrs rfl ?_ | refine go_idx rfl rfl rfl rfl (by omega) hrun rfl ?_ | refine ⟨h1, ?_⟩ | refine ⟨h2, ?_⟩ | refine ⟨h3, ?_⟩ | refine ⟨h4, ?_⟩) <;> conv => whnf) | ((first | refine go_loadB ?_ | refine ⟨by kernel_rfl, ?_⟩ | refine go_ret ?_) <;> conv => whnf) | refine go_block ?_ | ((first | refine go_skip ?_ | refine go_exit ?_) <;> conv => whnf) | refine go_true rfl ?_ | refine go_false rfl ?_ | refine go_cond rfl (fun h => ?_) (fun h => ?_) | refine ⟨rfl, ?_⟩ | ((first | refine ⟨trivial, ?_⟩ | refine ⟨le_of_ble rfl, ?_⟩) <;> conv => whnf) | fail
          all_goals first
            | (refine go_next (k + 1) (by omega) (by omega) (ref_st id rfl ⟨⟨rfl, rfl⟩, ?_, rfl, ⟨rfl, rfl⟩, next_i (by omega), trivial⟩ ⟨⟨rfl, wavs_imm _⟩, ⟨rfl, wavs_imm _⟩, trivial⟩ (by simp [nid]) rfl (by simp))
               rw [← hnx]
               rfl)
            | (exfalso; have h' := of_decide_eq_false h; omega)
            | (exfalso; have h' := of_decide_eq_true h; omega)
            | (exfalso; rename_i hq; have h' := of_decide_eq_true hq; omega)
            | (exfalso; rename_i hq; have h' := of_decide_eq_false hq; omega)
            | (exfalso; rename_i hq _; have h' := of_decide_eq_true hq; omega)
            | (exfalso; rename_i hq _; have h' := of_decide_eq_false hq; omega)
            | (exfalso; rw [List.length_map] at h; simp at h; omega)
            | trace_state
        · have hnx : ofL (stopsA n ++ linesN n i ++ headT l ++ lineN n l k ++ runN l k) ++ ofL [32] ++ x = ofL (stopsA n ++ linesN n i ++ headT l ++ lineN n l (k + 1) ++ runN l (k + 1)) := by rw [e3, run_none (by omega), List.append_nil]
          repeat' first | refine go_seq ?_ | refine go_region ?_ | refine go_draw drawsOk ?_ | ((first | refine go_op rfl ?_ | refine go_nil ?_ | refine go_storeBox rfl rfl rfl rfl rfl rfl ?_ | refine go_dop rfl ?_ | refine go_dend (by kernel_rfl) ?_ | refine go_idx rfl rfl rfl rfl (by omega) hr1 rfl ?_ | refine go_idx rfl rfl rfl rfl hs0 hrs rfl ?_ | refine ⟨h1, ?_⟩ | refine ⟨h2, ?_⟩) <;> conv => whnf) | ((first | refine go_loadB ?_ | refine ⟨by kernel_rfl, ?_⟩ | refine go_ret ?_) <;> conv => whnf) | refine go_block ?_ | ((first | refine go_skip ?_ | refine go_exit ?_) <;> conv => whnf) | refine go_true rfl ?_ | refine go_false rfl ?_ | refine go_cond rfl (fun h => ?_) (fun h => ?_) | refine ⟨rfl, ?_⟩ | ((first | refine ⟨trivial, ?_⟩ | refine ⟨le_of_ble rfl, ?_⟩) <;> conv => whnf) | fail
          all_goals first
            | (refine go_next (k + 1) (by omega) (by omega) (ref_st id rfl ⟨⟨rfl, rfl⟩, ?_, rfl, ⟨rfl, rfl⟩, next_i (by omega), trivial⟩ ⟨⟨rfl, wavs_imm _⟩, ⟨rfl, wavs_imm _⟩, trivial⟩ (by simp [nid]) rfl (by simp))
               rw [← hnx]
               rfl)
            | (exfalso; have h' := of_decide_eq_false h; omega)
            | (exfalso; have h' := of_decide_eq_true h; omega)
            | (exfalso; rename_i hq; have h' := of_decide_eq_true hq; omega)
            | (exfalso; rename_i hq; have h' := of_decide_eq_false hq; omega)
            | (exfalso; rename_i hq _; have h' := of_decide_eq_true hq; omega)
            | (exfalso; rename_i hq _; have h' := of_decide_eq_false hq; omega)
            | (exfalso; rw [List.length_map] at h; simp at h; omega)
            | trace_state
end Go.Proofs.YtekilollacmajaaGreatDoor

