/- The text of a network: the program's. -/
import Derived.Test.YtekilollacmajaaGreatDoorNT0
import Derived.Test.YtekilollacmajaaGreatDoorSh
import Derived.Test.YtekilollacmajaaGreatDoorAmZ
namespace Go.Proofs.YtekilollacmajaaGreatDoor
open Go Go.Am
set_option maxRecDepth 100000
set_option maxHeartbeats 8000000
attribute [local irreducible] amOps amC opCall opIndexAddr opPick retQ opMake opStore amDraw opAppend opLoad opNilCmp opIndex opSlice

def bStop : List UInt8 := [115, 116, 111, 112, 32]
theorem net_a1 {n : Network} {i : Nat} {s : ByteArray} (h : n.stops[i]? = some s) : stopsN n i ++ (ofL [115, 116, 111, 112, 32] ++ s ++ ofL [10]).data.toList = stopsN n (i + 1) := by
  rw [stopsN_next h]
  show _ ++ (ofL [115, 116, 111, 112, 32] ++ ofL (bytes s) ++ ofL [10]).data.toList = _
  rw [ofL_app, ofL_app]
  rfl
theorem net_a2 (n : Network) (l : Line) (i : Nat) : (stopsA n ++ linesN n i) ++ (ofL [108, 105, 110, 101, 32] ++ l.name).data.toList = stopsA n ++ linesN n i ++ headT l ++ lineN n l 0 := by
  show _ ++ (ofL [108, 105, 110, 101, 32] ++ ofL (bytes l.name)).data.toList = _
  rw [ofL_app]
  show _ ++ headT l = _ ++ headT l ++ []
  rw [List.append_nil]
theorem net_a3 (n : Network) (l : Line) (A : List UInt8) {x : ByteArray} {s : Int} (h1 : l.stops[0]? = some s) (h2 : n.stops[s.toNat]? = some x) : A ++ lineN n l 0 ++ (ofL [32] ++ x).data.toList = A ++ lineN n l 1 := by
  show _ ++ (ofL [32] ++ ofL (bytes x)).data.toList = _
  rw [ofL_app]
  show A ++ [] ++ (32 :: bytes x) = A ++ ([] ++ [] ++ (32 :: stpT n (l.stops.getD 0 0)))
  rw [getD_at h1]
  unfold stpT
  rw [h2]
  simp
theorem net_a4 (n : Network) (l : Line) (A : List UInt8) {x : ByteArray} {s r : Int} {j : Nat} (h1 : l.stops[j + 1]? = some s) (h2 : n.stops[s.toNat]? = some x) (h3 : l.runs[j]? = some r) :
    A ++ lineN n l (j + 1) ++ (ofL [32] ++ ofL (numT r.toNat)).data.toList ++ (ofL [32] ++ x).data.toList = A ++ lineN n l (j + 1 + 1) := by
  show _ ++ _ ++ (ofL [32] ++ ofL (bytes x)).data.toList = _
  rw [ofL_app, ofL_app]
  show A ++ lineN n l (j + 1) ++ (32 :: numT r.toNat) ++ (32 :: bytes x) = A ++ (lineN n l (j + 1) ++ midT l (j + 1) ++ (32 :: stpT n (l.stops.getD (j + 1) 0)))
  rw [getD_at h1]
  have e : midT l (j + 1) = 32 :: numT r.toNat := by
    show 32 :: runT (l.runs.getD j 0) = _
    rw [getD_at h3]; rfl
  rw [e]
  unfold stpT
  rw [h2]
  simp only [List.append_assoc]
theorem net_a5 {n : Network} {l : Line} {i : Nat} (h : n.lines[i]? = some l) : stopsA n ++ linesN n i ++ headT l ++ lineN n l l.stops.length ++ [10] = stopsA n ++ linesN n (i + 1) := by
  rw [linesN_next h]
  unfold lineT
  simp only [List.append_assoc]

theorem c20 (n : Network) (hf : n.fit) (hn : NFit n) : CallOk Tryz.prog 20 [.imm (.agg n.enc)] { res := [.imm (.str (ofL (netT n)))] } := by
  refine callOk_of tyOk Tryz.func20 rfl rfl (le_of_ble rfl) (le_of_ble rfl) (mutOk_imm rfl _) ?_
  obtain ⟨f1, _, f2, f3⟩ := hf
  repeat' first | (refine go_bldA (e := 5) Tryz.zeroValue78 rfl rfl ?_; intro b; conv => whnf) | refine go_seq ?_ | refine go_region ?_ | ((first | refine go_op rfl ?_ | refine go_nil ?_ | refine go_storeBox rfl rfl rfl rfl rfl rfl ?_) <;> conv => whnf) | ((first | refine go_loadB ?_ | refine ⟨by kernel_rfl, ?_⟩ | refine go_ret ?_) <;> conv => whnf) | refine go_block ?_ | ((first | refine go_skip ?_ | refine go_exit ?_) <;> conv => whnf) | refine go_true rfl ?_ | refine go_false rfl ?_ | refine go_cond rfl (fun h => ?_) (fun h => ?_) | refine ⟨rfl, ?_⟩ | ((first | refine ⟨trivial, ?_⟩ | refine ⟨le_of_ble rfl, ?_⟩) <;> conv => whnf) | fail
  refine go_loop (α := Nat) (fun i => i ≤ n.stops.length) (fun i => n.stops.length - i)
    (fun i => st Tryz.f20.ntmps [(1, .box 1000 0), (3, .imm (.other (.pointer (some ⟨b, 0, none⟩)))), (11, .imm (.list (n.stops.map strRow))), (12, .imm (.int .i64 (n.stops.map strRow).length)), (13, .imm (.int .i64 (i : Nat)))]
      [(1000, .box 35 (n.enc.map .imm)), (1002, .ext (BldI 78 5 b (stopsN n i)))] []) 0 (Nat.zero_le _) ?_ ?_
  · exact ref_st (fun y => if y = 1000 then nid 1 1 else nid 2 3) rfl ⟨⟨rfl, rfl⟩, rfl, rfl, rfl, rfl, trivial⟩ ⟨⟨rfl, wavs_imm _⟩, rfl, trivial⟩ (by simp [nid]) rfl (by simp)
  intro i hi
  cases hx : n.stops[i]? with
  | some s =>
    have hlt := lt_of_at hx
    have hr := row_at strRow hx
    have hl8 := hn.st s (List.mem_of_getElem? hx)
    have hal := stopsN_len hn i
    have h1 : (ofL [115, 116, 111, 112, 32]).size + s.size ≤ 4611686018427387904 := by rw [ofL_size]; simp only [List.length_cons, List.length_nil]; omega
    have h2 : (ofL [115, 116, 111, 112, 32] ++ s).size + (ofL [10]).size ≤ 4611686018427387904 := by rw [ByteArray.size_append, ofL_size, ofL_size]; simp only [List.length_cons, List.length_nil]; omega
    have hw : (stopsN n i).length + (ofL [115, 116, 111, 112, 32] ++ s ++ ofL [10]).size ≤ 140737488355328 := by rw [ByteArray.size_append, ByteArray.size_append, ofL_size, ofL_size]; simp only [List.length_cons, List.length_nil]; omega
    have hnx := net_a1 hx
    repeat' first | (refine go_bldW (id := 1002) lays166 Builder_Extra_166 ⟨_, Tryz.func41, rfl, rfl⟩ rfl rfl rfl rfl rfl rfl rfl rfl hw ?_; conv => whnf) | refine go_seq ?_ | refine go_region ?_ | ((first | refine go_op rfl ?_ | refine go_nil ?_ | refine go_storeBox rfl rfl rfl rfl rfl rfl ?_ | refine go_idx rfl rfl rfl rfl (by omega) hr rfl ?_ | refine ⟨h1, ?_⟩ | refine ⟨h2, ?_⟩) <;> conv => whnf) | ((first | refine go_loadB ?_ | refine ⟨by kernel_rfl, ?_⟩ | refine go_ret ?_) <;> conv => whnf) | refine go_block ?_ | ((first | refine go_skip ?_ | refine go_exit ?_) <;> conv => whnf) | refine go_true rfl ?_ | refine go_false rfl ?_ | refine go_cond rfl (fun h => ?_) (fun h => ?_) | refine ⟨rfl, ?_⟩ | ((first | refine ⟨trivial, ?_⟩ | refine ⟨le_of_ble rfl, ?_⟩) <;> conv => whnf) | fail
    all_goals first
      | (refine go_next (i + 1) (by omega) (by omega) (ref_st (fun y => if y = 1002 then nid 4 20 else y) rfl ⟨⟨rfl, rfl⟩, rfl, rfl, rfl, next_i (by omega), trivial⟩ ⟨⟨rfl, wavs_imm _⟩, ?_, trivial⟩ (by simp [nid]) rfl (by simp))
         rw [← hnx]
         rfl)
      | (exfalso; have h' := of_decide_eq_false h; omega)
      | (exfalso; have h' := of_decide_eq_true h; omega)
      | (exfalso; rename_i hq; have h' := of_decide_eq_true hq; omega)
      | (exfalso; rename_i hq; have h' := of_decide_eq_false hq; omega)
      | (exfalso; rename_i hq _; have h' := of_decide_eq_true hq; omega)
      | (exfalso; rename_i hq _; have h' := of_decide_eq_false hq; omega)
      | (exfalso; rw [List.length_map] at h; have h2 := of_decide_eq_false h; omega)
      | (exfalso; simp at h; done)
      | (exfalso; simp at h; omega)
      | trace_state
  | none =>
    have hge := le_of_at hx
    rw [stopsN_all hge]
    repeat' first | refine go_seq ?_ | refine go_region ?_ | ((first | refine go_op rfl ?_ | refine go_nil ?_ | refine go_storeBox rfl rfl rfl rfl rfl rfl ?_) <;> conv => whnf) | ((first | refine go_loadB ?_ | refine ⟨by kernel_rfl, ?_⟩ | refine go_ret ?_) <;> conv => whnf) | refine go_block ?_ | ((first | refine go_skip ?_ | refine go_exit ?_) <;> conv => whnf) | refine go_true rfl ?_ | refine go_false rfl ?_ | refine go_cond rfl (fun h => ?_) (fun h => ?_) | refine ⟨rfl, ?_⟩ | ((first | refine ⟨trivial, ?_⟩ | refine ⟨le_of_ble rfl, ?_⟩) <;> conv => whnf) | fail
    all_goals try first
      | (exfalso; have h' := of_decide_eq_false h; omega)
      | (exfalso; have h' := of_decide_eq_true h; omega)
      | (exfalso; rename_i hq; have h' := of_decide_eq_true hq; omega)
      | (exfalso; rename_i hq; have h' := of_decide_eq_false hq; omega)
      | (exfalso; rename_i hq _; have h' := of_decide_eq_true hq; omega)
      | (exfalso; rename_i hq _; have h' := of_decide_eq_false hq; omega)
      | (exfalso; rw [List.length_map] at h; have h2 := of_decide_eq_false h; omega)
      | (exfalso; simp at h; done)
      | (exfalso; simp at h; omega)
    refine go_loop (α := Nat) (fun i => i ≤ n.lines.length) (fun i => n.lines.length - i)
      (fun i => st Tryz.f20.ntmps [(1, .box 1000 0), (3, .imm (.other (.pointer (some ⟨b, 0, none⟩)))), (23, .imm (.list (n.lines.map Line.enc))), (24, .imm (.int .i64 (n.lines.map Line.enc).length)), (25, .imm (.int .i64 (i : Nat)))]
        [(1000, .box 35 (n.enc.map .imm)), (1002, .ext (BldI 78 5 b (stopsA n ++ linesN n i)))] []) 0 (Nat.zero_le _) ?_ ?_
    · rw [show stopsA n ++ linesN n 0 = stopsA n from List.append_nil _]
      exact ref_st id rfl ⟨⟨rfl, rfl⟩, rfl, rfl, rfl, rfl, trivial⟩ ⟨⟨rfl, wavs_imm _⟩, rfl, trivial⟩ (by simp [nid]) rfl (by simp)
    intro i hi
    cases hy : n.lines[i]? with
    | none =>
      have hge := le_of_at hy
      rw [linesN_all hge]
      repeat' first | (refine go_bldS (id := 1002) lays169 Builder_Extra_169 ⟨_, Tryz.func44, rfl, rfl⟩ rfl rfl rfl rfl rfl rfl ?_; conv => whnf) | refine go_seq ?_ | refine go_region ?_ | ((first | refine go_op rfl ?_ | refine go_nil ?_ | refine go_storeBox rfl rfl rfl rfl rfl rfl ?_) <;> conv => whnf) | ((first | refine go_loadB ?_ | refine ⟨by kernel_rfl, ?_⟩ | refine go_ret ?_) <;> conv => whnf) | refine go_block ?_ | ((first | refine go_skip ?_ | refine go_exit ?_) <;> conv => whnf) | refine go_true rfl ?_ | refine go_false rfl ?_ | refine go_cond rfl (fun h => ?_) (fun h => ?_) | refine ⟨rfl, ?_⟩ | ((first | refine ⟨trivial, ?_⟩ | refine ⟨le_of_ble rfl, ?_⟩) <;> conv => whnf) | fail
      all_goals first
        | exact ret_imm rfl rfl rfl rfl rfl rfl
        | (exfalso; have h' := of_decide_eq_false h; omega)
        | (exfalso; have h' := of_decide_eq_true h; omega)
        | (exfalso; rename_i hq; have h' := of_decide_eq_true hq; omega)
        | (exfalso; rename_i hq; have h' := of_decide_eq_false hq; omega)
        | (exfalso; rename_i hq _; have h' := of_decide_eq_true hq; omega)
        | (exfalso; rename_i hq _; have h' := of_decide_eq_false hq; omega)
        | (exfalso; rw [List.length_map] at h; have h2 := of_decide_eq_false h; omega)
        | (exfalso; simp at h; done)
        | (exfalso; simp at h; omega)
        | trace_state
    | some l =>
      have hlt := lt_of_at hy
      have hrw := row_at Line.enc hy
      have hmem := List.mem_of_getElem? hy
      have hlf := f3 l hmem
      obtain ⟨q1, q2, q3, q4⟩ := hn.ln l hmem
      have hal : (stopsA n ++ linesN n i).length ≤ 700 := by rw [List.length_append]; have := stopsN_len hn n.stops.length; have := linesN_len hn i; unfold stopsA; omega
      have hhl := headT_len hn hmem
      have h1 : (ofL [108, 105, 110, 101, 32]).size + l.name.size ≤ 4611686018427387904 := by rw [ofL_size]; simp only [List.length_cons, List.length_nil]; omega
      have hw : (stopsA n ++ linesN n i).length + (ofL [108, 105, 110, 101, 32] ++ l.name).size ≤ 140737488355328 := by rw [ByteArray.size_append, ofL_size]; simp only [List.length_cons, List.length_nil]; omega
      have hnx := net_a2 n l i
      repeat' first | (refine go_bldW (id := 1002) lays166 Builder_Extra_166 ⟨_, Tryz.func41, rfl, rfl⟩ rfl rfl rfl rfl rfl rfl rfl rfl hw ?_; conv => whnf) | refine go_seq ?_ | refine go_region ?_ | ((first | refine go_op rfl ?_ | refine go_nil ?_ | refine go_storeBox rfl rfl rfl rfl rfl rfl ?_ | refine go_idx rfl rfl rfl rfl (by omega) hrw rfl ?_ | refine ⟨h1, ?_⟩) <;> conv => whnf) | ((first | refine go_loadB ?_ | refine ⟨by kernel_rfl, ?_⟩ | refine go_ret ?_) <;> conv => whnf) | refine go_block ?_ | ((first | refine go_skip ?_ | refine go_exit ?_) <;> conv => whnf) | refine go_true rfl ?_ | refine go_false rfl ?_ | refine go_cond rfl (fun h => ?_) (fun h => ?_) | refine ⟨rfl, ?_⟩ | ((first | refine ⟨trivial, ?_⟩ | refine ⟨le_of_ble rfl, ?_⟩) <;> conv => whnf) | fail
      all_goals try first
        | (exfalso; have h' := of_decide_eq_false h; omega)
        | (exfalso; have h' := of_decide_eq_true h; omega)
        | (exfalso; rename_i hq; have h' := of_decide_eq_true hq; omega)
        | (exfalso; rename_i hq; have h' := of_decide_eq_false hq; omega)
        | (exfalso; rename_i hq _; have h' := of_decide_eq_true hq; omega)
        | (exfalso; rename_i hq _; have h' := of_decide_eq_false hq; omega)
        | (exfalso; rw [List.length_map] at h; have h2 := of_decide_eq_false h; omega)
        | (exfalso; simp at h; done)
        | (exfalso; simp at h; omega)
      refine go_loop (α := Nat) (fun k => k ≤ l.stops.length) (fun k => l.stops.length - k)
        (fun k => st Tryz.f20.ntmps [(1, .box 1000 0), (3, .imm (.other (.pointer (some ⟨b, 0, none⟩)))), (7, .box 1001 0), (23, .imm (.list (n.lines.map Line.enc))), (24, .imm (.int .i64 (n.lines.map Line.enc).length)), (25, .imm (.int .i64 (i : Nat))), (34, .imm (.list (l.stops.map intRow))), (35, .imm (.int .i64 (l.stops.map intRow).length)), (36, .imm (.int .i64 (k : Nat)))]
          [(1000, .box 35 (n.enc.map .imm)), (1001, .box 69 (l.enc.map .imm)), (1002, .ext (BldI 78 5 b (stopsA n ++ linesN n i ++ headT l ++ lineN n l k)))] []) 0 (Nat.zero_le _) ?_ ?_
      · refine ref_st (fun y => if y = 1001 then nid 3 7 else if y = 1002 then nid 4 32 else y) rfl ⟨⟨rfl, rfl⟩, rfl, ⟨rfl, rfl⟩, rfl, rfl, rfl, rfl, rfl, rfl, trivial⟩ ⟨⟨rfl, wavs_imm _⟩, ⟨rfl, wavs_imm _⟩, ?_, trivial⟩ (by simp [nid]) rfl (by simp)
        rw [← hnx]
        rfl
      intro k hk
      have hal2 : (stopsA n ++ linesN n i ++ headT l ++ lineN n l k).length ≤ 800 := by rw [List.length_append, List.length_append]; have := lineN_len hn hmem k; omega
      cases hz : l.stops[k]? with
      | none =>
        have hge := le_of_at hz
        have hke : k = l.stops.length := by omega
        subst hke
        have hw1 : (stopsA n ++ linesN n i ++ headT l ++ lineN n l l.stops.length).length + 1 ≤ 140737488355328 := by omega
        have hnx := net_a5 hy
        repeat' first | (refine go_bldB (c := 10) (id := 1002) lays167 Builder_Extra_167 ⟨_, Tryz.func43, rfl, rfl⟩ rfl rfl rfl rfl rfl rfl rfl rfl hw1 ?_; conv => whnf) | refine go_seq ?_ | refine go_region ?_ | ((first | refine go_op rfl ?_ | refine go_nil ?_ | refine go_storeBox rfl rfl rfl rfl rfl rfl ?_) <;> conv => whnf) | ((first | refine go_loadB ?_ | refine ⟨by kernel_rfl, ?_⟩ | refine go_ret ?_) <;> conv => whnf) | refine go_block ?_ | ((first | refine go_skip ?_ | refine go_exit ?_) <;> conv => whnf) | refine go_true rfl ?_ | refine go_false rfl ?_ | refine go_cond rfl (fun h => ?_) (fun h => ?_) | refine ⟨rfl, ?_⟩ | ((first | refine ⟨trivial, ?_⟩ | refine ⟨le_of_ble rfl, ?_⟩) <;> conv => whnf) | fail
        all_goals first
          | (refine go_next (i + 1) (by omega) (by omega) (ref_st (fun y => if y = 1002 then nid 3 60 else y) rfl ⟨⟨rfl, rfl⟩, rfl, rfl, rfl, next_i (by omega), trivial⟩ ⟨⟨rfl, wavs_imm _⟩, ?_, trivial⟩ (by simp [nid]) rfl (by simp))
             rw [← hnx]
             rfl)
          | (exfalso; have h' := of_decide_eq_false h; omega)
          | (exfalso; have h' := of_decide_eq_true h; omega)
          | (exfalso; rename_i hq; have h' := of_decide_eq_true hq; omega)
          | (exfalso; rename_i hq; have h' := of_decide_eq_false hq; omega)
          | (exfalso; rename_i hq _; have h' := of_decide_eq_true hq; omega)
          | (exfalso; rename_i hq _; have h' := of_decide_eq_false hq; omega)
          | (exfalso; rw [List.length_map] at h; have h2 := of_decide_eq_false h; omega)
          | (exfalso; simp at h; done)
          | (exfalso; simp at h; omega)
          | trace_state
      | some s =>
        have hlt2 := lt_of_at hz
        have hr1 := row_at intRow hz
        obtain ⟨hs0, x, hsx⟩ := hn.sp l hmem k s hz
        have hr2 := row_at strRow hsx
        have hxl := hn.st x (List.mem_of_getElem? hsx)
        have hc32 : (ofL [32]).size + x.size ≤ 4611686018427387904 := by rw [ofL_size]; simp only [List.length_cons, List.length_nil]; omega
        have hrs : (n.stops.map strRow)[s.toNat]? = some (strRow x) := by rw [List.getElem?_map, hsx]; rfl
        cases k with
        | zero =>
          have hw1 : (stopsA n ++ linesN n i ++ headT l ++ lineN n l 0).length + (ofL [32] ++ x).size ≤ 140737488355328 := by rw [ByteArray.size_append, ofL_size]; simp only [List.length_cons, List.length_nil]; omega
          have hnx := net_a3 n l (stopsA n ++ linesN n i ++ headT l) hz hsx
          repeat' first | (refine go_bldW (id := 1002) lays166 Builder_Extra_166 ⟨_, Tryz.func41, rfl, rfl⟩ rfl rfl rfl rfl rfl rfl rfl rfl hw1 ?_; conv => whnf) | refine go_seq ?_ | refine go_region ?_ | ((first | refine go_op rfl ?_ | refine go_nil ?_ | refine go_storeBox rfl rfl rfl rfl rfl rfl ?_ | refine go_idx rfl rfl rfl rfl (by omega) hr1 rfl ?_ | refine go_idx rfl rfl rfl rfl hs0 hrs rfl ?_ | refine ⟨hc32, ?_⟩) <;> conv => whnf) | ((first | refine go_loadB ?_ | refine ⟨by kernel_rfl, ?_⟩ | refine go_ret ?_) <;> conv => whnf) | refine go_block ?_ | ((first | refine go_skip ?_ | refine go_exit ?_) <;> conv => whnf) | refine go_true rfl ?_ | refine go_false rfl ?_ | refine go_cond rfl (fun h => ?_) (fun h => ?_) | refine ⟨rfl, ?_⟩ | ((first | refine ⟨trivial, ?_⟩ | refine ⟨le_of_ble rfl, ?_⟩) <;> conv => whnf) | fail
          all_goals first
            | (refine go_next 1 (by omega) (by omega) (ref_st (fun y => if y = 1002 then nid 5 58 else y) rfl ⟨⟨rfl, rfl⟩, rfl, ⟨rfl, rfl⟩, rfl, rfl, rfl, rfl, rfl, next_i (i := 0) (by omega), trivial⟩ ⟨⟨rfl, wavs_imm _⟩, ⟨rfl, wavs_imm _⟩, ?_, trivial⟩ (by simp [nid]) rfl (by simp))
               rw [← hnx]
               rfl)
            | (exfalso; have h' := of_decide_eq_false h; omega)
            | (exfalso; have h' := of_decide_eq_true h; omega)
            | (exfalso; rename_i hq; have h' := of_decide_eq_true hq; omega)
            | (exfalso; rename_i hq; have h' := of_decide_eq_false hq; omega)
            | (exfalso; rename_i hq _; have h' := of_decide_eq_true hq; omega)
            | (exfalso; rename_i hq _; have h' := of_decide_eq_false hq; omega)
            | (exfalso; rw [List.length_map] at h; have h2 := of_decide_eq_false h; omega)
            | (exfalso; simp at h; done)
            | (exfalso; simp at h; omega)
            | trace_state
        | succ j =>
          obtain ⟨r, hr⟩ : ∃ r, l.runs[j]? = some r := ⟨_, List.getElem?_eq_getElem (by omega)⟩
          have hrr := hn.rn l hmem r (List.mem_of_getElem? hr)
          have ej : IntKind.i64.wrap (((j + 1 : Nat) : Int) - 1) = (j : Nat) := by rw [wrap_small (by omega) (by omega)]; omega
          have hnn : 0 ≤ IntKind.i64.wrap (((j + 1 : Nat) : Int) - 1) := by rw [ej]; omega
          have hrun : (l.runs.map intRow)[(IntKind.i64.wrap (((j + 1 : Nat) : Int) - 1)).toNat]? = some (intRow r) := by rw [ej, List.getElem?_map]; show Option.map intRow l.runs[j]? = _; rw [hr]; rfl
          have hc := c42 r.toNat (by omega)
          rw [show ((r.toNat : Nat) : Int) = r by omega] at hc
          have hnl : (numT r.toNat).length ≤ 2 := runT_len hrr.2
          have hcN : (ofL [32]).size + (ofL (numT r.toNat)).size ≤ 4611686018427387904 := by rw [ofL_size, ofL_size]; simp only [List.length_cons, List.length_nil]; omega
          have hw1 : (stopsA n ++ linesN n i ++ headT l ++ lineN n l (j + 1)).length + (ofL [32] ++ ofL (numT r.toNat)).size ≤ 140737488355328 := by rw [ByteArray.size_append, ofL_size, ofL_size]; simp only [List.length_cons, List.length_nil]; omega
          have hw2 : (stopsA n ++ linesN n i ++ headT l ++ lineN n l (j + 1) ++ (ofL [32] ++ ofL (numT r.toNat)).data.toList).length + (ofL [32] ++ x).size ≤ 140737488355328 := by
            have e1 : (ofL [32] ++ ofL (numT r.toNat)).data.toList.length = 1 + (numT r.toNat).length := by rw [ofL_app]; show (32 :: numT r.toNat).length = _; rw [List.length_cons]; omega
            rw [List.length_append, e1, ByteArray.size_append, ofL_size]; simp only [List.length_cons, List.length_nil]; omega
          have hnx := net_a4 n l (stopsA n ++ linesN n i ++ headT l) hz hsx hr
          repeat' first | (refine go_bldW (id := 1002) lays166 Builder_Extra_166 ⟨_, Tryz.func41, rfl, rfl⟩ rfl rfl rfl rfl rfl rfl rfl rfl hw1 ?_; conv => whnf) | (refine go_bldW (id := nid 5 51) lays166 Builder_Extra_166 ⟨_, Tryz.func41, rfl, rfl⟩ rfl rfl rfl rfl rfl rfl rfl rfl hw2 ?_; conv => whnf) | refine go_seq ?_ | refine go_region ?_ | ((first | refine go_op rfl ?_ | refine go_nil ?_ | refine go_storeBox rfl rfl rfl rfl rfl rfl ?_ | refine go_call [] (hc) rfl rfl rfl rfl ?_ | refine go_idx rfl rfl rfl rfl (by omega) hr1 rfl ?_ | refine go_idx rfl rfl rfl rfl hs0 hrs rfl ?_ | refine go_idx rfl rfl rfl rfl hnn hrun rfl ?_ | refine ⟨hcN, ?_⟩ | refine ⟨hc32, ?_⟩) <;> conv => whnf) | ((first | refine go_loadB ?_ | refine ⟨by kernel_rfl, ?_⟩ | refine go_ret ?_) <;> conv => whnf) | refine go_block ?_ | ((first | refine go_skip ?_ | refine go_exit ?_) <;> conv => whnf) | refine go_true rfl ?_ | refine go_false rfl ?_ | refine go_cond rfl (fun h => ?_) (fun h => ?_) | refine ⟨rfl, ?_⟩ | ((first | refine ⟨trivial, ?_⟩ | refine ⟨le_of_ble rfl, ?_⟩) <;> conv => whnf) | fail
          all_goals first
            | (refine go_next (j + 1 + 1) (by omega) (by omega) (ref_st (fun y => if y = 1002 then nid 6 58 else y) rfl ⟨⟨rfl, rfl⟩, rfl, ⟨rfl, rfl⟩, rfl, rfl, rfl, rfl, rfl, next_i (i := j + 1) (by omega), trivial⟩ ⟨⟨rfl, wavs_imm _⟩, ⟨rfl, wavs_imm _⟩, ?_, trivial⟩ (by simp [nid]) rfl (by simp))
               rw [← hnx]
               rfl)
            | (exfalso; have h' := of_decide_eq_false h; omega)
            | (exfalso; have h' := of_decide_eq_true h; omega)
            | (exfalso; rename_i hq; have h' := of_decide_eq_true hq; omega)
            | (exfalso; rename_i hq; have h' := of_decide_eq_false hq; omega)
            | (exfalso; rename_i hq _; have h' := of_decide_eq_true hq; omega)
            | (exfalso; rename_i hq _; have h' := of_decide_eq_false hq; omega)
            | (exfalso; rw [List.length_map] at h; have h2 := of_decide_eq_false h; omega)
            | (exfalso; simp at h; done)
            | (exfalso; simp at h; omega)
            | trace_state
end Go.Proofs.YtekilollacmajaaGreatDoor

