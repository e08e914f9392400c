/- The walk of the program's search. -/
import Derived.Test.YteoiohkdhdpkoaaG2
import Derived.Test.YteoiohkdhdpkoaaAmHD
namespace Go.Proofs.Yteoiohkdhdpkoaa
open Go Go.Am
set_option maxRecDepth 100000
set_option maxHeartbeats 16000000
attribute [local irreducible] amOps amC opCall opIndexAddr opPick retQ opMake opStore amDraw opAppend opLoad opNilCmp opIndex opSlice xQ

def nats (q : List Nat) : List Int := q.map fun k => ((k : Nat) : Int)
def fI (N i : Nat) : List Int := List.replicate i (-1) ++ List.replicate (N - i) 0
theorem fI_len {N i : Nat} (h : i ≤ N) : (fI N i).length = N := by unfold fI; rw [List.length_append, List.length_replicate, List.length_replicate]; omega
theorem fI_at {N i : Nat} (h : i < N) : (fI N i)[i]? = some 0 := by
  unfold fI
  rw [List.getElem?_append_right (by simp), List.length_replicate, Nat.sub_self, List.getElem?_replicate, if_pos (by omega)]
theorem fI_set {N i : Nat} (h : i < N) : (fI N i).set i (-1) = fI N (i + 1) := by
  unfold fI
  rw [List.set_append_right _ _ (by simp), List.length_replicate, Nat.sub_self, show N - i = (N - (i + 1)) + 1 from by omega, List.replicate_succ, List.set_cons_zero, List.replicate_succ', List.append_assoc]
  rfl
theorem fI_end (N : Nat) : (fI N N).set 0 0 = (List.replicate N (-1)).set 0 0 := by unfold fI; simp
theorem fI_N (N : Nat) : fI N N = List.replicate N (-1) := by unfold fI; simp
theorem rows_set {o : List Int} {k : Nat} {v : Int} : (o.map intRow).set k [.int .i64 v] = (o.set k v).map intRow := by rw [List.map_set]; rfl
theorem ints_sz (xs : List Int) : ∀ r ∈ xs.map intRow, r.length = ty3.size := by
  intro r hr
  obtain ⟨_, _, rfl⟩ := List.mem_map.1 hr
  rfl
theorem fold_next {α β : Type} {g : β → α → β} {b : β} {xs : List α} {i : Nat} {x : α} (h : xs[i]? = some x) : (xs.take (i + 1)).foldl g b = g ((xs.take i).foldl g b) x := by
  rw [List.take_add_one, h, List.foldl_append]
  rfl

theorem c15 (n : Network) (f : Nat) (hf : n.fit) (hok : ∀ l ∈ n.lines, LnOk n.stops.length l) (hN : n.stops.length ≤ 1000) (hfN : f < n.stops.length) :
    CallOk Try.prog 15 [.imm (.agg n.enc), .imm (.int .i64 (f : Int))] { res := [.imm (.list ((ridB n.lines n.stops.length f).map intRow))] } := by
  refine callOk_of tyOk Try.func15 rfl rfl (le_of_ble rfl) (le_of_ble rfl) (mutOk_imm rfl _) ?_
  obtain ⟨_, _, f3, f4⟩ := hf
  have es : (n.stops.map strRow).length = n.stops.length := List.length_map _
  have el : (n.lines.map Line.enc).length = n.lines.length := List.length_map _
  have hb0 := b0_inv (ls := n.lines) hfN
  have hm0 := b0_mes hfN
  unfold ridB
  generalize hF : bfs n.lines (2 * n.stops.length) (b0 n.stops.length f) = F
  have hF0 : (b0 n.stops.length f).o = (List.replicate n.stops.length (-1)).set f 0 := rfl
  have hFq : (b0 n.stops.length f).q = [f] := rfl
  have hN1 : n.stops.length = n.stops.length := rfl
  generalize b0 n.stops.length f = B0 at *
  repeat' first | refine go_seq ?_ | refine go_region ?_ | ((first | refine go_op rfl ?_ | refine go_nil ?_ | refine go_storeBox rfl rfl rfl rfl rfl rfl ?_ | refine go_makeN rfl rfl rfl rfl rfl rfl rfl rfl rfl (by omega) (by simp; omega) ?_) <;> conv => whnf) | ((first | refine go_loadB ?_ | refine ⟨by kernel_rfl, ?_⟩ | refine go_ret ?_) <;> conv => whnf) | refine go_block ?_ | ((first | refine go_skip ?_ | refine go_exit ?_) <;> conv => whnf) | refine go_true rfl ?_ | refine go_false rfl ?_ | refine go_cond rfl (fun h => ?_) (fun h => ?_) | refine ⟨rfl, ?_⟩ | ((first | refine ⟨trivial, ?_⟩ | refine ⟨le_of_ble rfl, ?_⟩) <;> conv => whnf) | fail
  refine go_loop (α := Nat) (fun i => i ≤ n.stops.length) (fun i => n.stops.length - i)
    (fun i => st Try.f15.ntmps [(1, .imm (.int .i64 (f : Int))), (2, .box 1000 0), (5, .own 1001 0 (n.stops.map strRow).length), (19, .imm (.int .i64 (n.stops.map strRow).length)), (20, .imm (.int .i64 (i : Nat)))]
      [(1000, .box 27 (n.enc.map .imm)), (1001, .arr 3 1 ((fI n.stops.length i).map intRow))] []) 0 (Nat.zero_le _) ?_ ?_
  · refine ref_st (fun y => if y = 1000 then nid 1 2 else nid 2 17) rfl ⟨rfl, ⟨rfl, rfl⟩, ⟨rfl, rfl⟩, rfl, rfl, trivial⟩ ⟨⟨rfl, wavs_imm _⟩, ?_, trivial⟩ (by simp [nid]) rfl (by simp)
    show some _ = some _
    simp [fI]
    exact ⟨rfl, .inr rfl⟩
  intro i hi
  have hln := fI_len hi
  by_cases hlt : i < n.stops.length
  · have hil : i < (n.stops.map strRow).length := by omega
    have hrow : ((fI n.stops.length i).map intRow)[i]? = some [.int .i64 0] := row_at intRow (fI_at hlt)
    have hset : ((fI n.stops.length i).map intRow).set i [.int .i64 (-1)] = (fI n.stops.length (i + 1)).map intRow := by rw [rows_set, fI_set hlt]
    repeat' first | refine go_seq ?_ | refine go_region ?_ | ((first | refine go_op rfl ?_ | refine go_nil ?_ | refine go_storeBox rfl rfl rfl rfl rfl rfl ?_ | refine go_idxOwnI (j := i) rfl rfl rfl rfl rfl rfl rfl hil ?_ | refine go_storeRow rfl rfl rfl rfl hrow rfl rfl hset ?_) <;> conv => whnf) | ((first | refine go_loadB ?_ | refine ⟨by kernel_rfl, ?_⟩ | refine go_ret ?_) <;> conv => whnf) | refine go_block ?_ | ((first | refine go_skip ?_ | refine go_exit ?_) <;> conv => whnf) | refine go_true rfl ?_ | refine go_false rfl ?_ | refine go_cond rfl (fun h => ?_) (fun h => ?_) | refine ⟨rfl, ?_⟩ | ((first | refine ⟨trivial, ?_⟩ | refine ⟨le_of_ble rfl, ?_⟩) <;> conv => whnf) | fail
    all_goals first
      | exact go_next (i + 1) (by show i + 1 ≤ _; omega) (by show _ - (i + 1) < _ - i; omega) (ref_st id rfl ⟨rfl, ⟨rfl, rfl⟩, ⟨rfl, rfl⟩, rfl, next_i (by omega), trivial⟩ ⟨⟨rfl, wavs_imm _⟩, rfl, trivial⟩ (by simp) rfl (by simp))
      | (exfalso; simp only [decide_eq_false_iff_not] at *; omega)
      | trace_state
  · have hie : i = n.stops.length := by omega
    subst hie
    have hil : f < (n.stops.map strRow).length := by omega
    have hrow : ((fI n.stops.length n.stops.length).map intRow)[f]? = some [.int .i64 (-1)] := by rw [fI_N]; exact row_at intRow (by rw [List.getElem?_replicate, if_pos hfN])
    have hset : ((fI n.stops.length n.stops.length).map intRow).set f [.int .i64 0] = B0.o.map intRow := by rw [rows_set, hF0, fI_N]
    repeat' first | refine go_seq ?_ | refine go_region ?_ | ((first | refine go_op rfl ?_ | refine go_nil ?_ | refine go_storeBox rfl rfl rfl rfl rfl rfl ?_ | refine go_idxOwnI (j := f) rfl rfl rfl rfl rfl rfl rfl hil ?_ | refine go_storeRow rfl rfl rfl rfl hrow rfl rfl hset ?_) <;> conv => whnf) | ((first | refine go_loadB ?_ | refine ⟨by kernel_rfl, ?_⟩ | refine go_ret ?_) <;> conv => whnf) | refine go_block ?_ | ((first | refine go_skip ?_ | refine go_exit ?_) <;> conv => whnf) | refine go_true rfl ?_ | refine go_false rfl ?_ | refine go_cond rfl (fun h => ?_) (fun h => ?_) | refine ⟨rfl, ?_⟩ | ((first | refine ⟨trivial, ?_⟩ | refine ⟨le_of_ble rfl, ?_⟩) <;> conv => whnf) | fail
    all_goals first
      | (exfalso; simp only [decide_eq_true_eq] at *; omega)
      | skip
    refine go_loop (α := Nat × Bf) (fun q => GInv n.lines f n.stops.length q.2 ∧ mes q.2 ≤ q.1 ∧ bfs n.lines q.1 q.2 = F ∧ q.1 ≤ 2 * n.stops.length) (fun q => q.1)
      (fun q => st Try.f15.ntmps [(2, .box 1000 0), (5, .own 1001 0 (n.stops.map strRow).length), (7, .own 1002 0 ((nats q.2.q).map intRow).length)]
        [(1000, .box 27 (n.enc.map .imm)), (1001, .arr 3 1 (q.2.o.map intRow)), (1002, .arr 3 1 ((nats q.2.q).map intRow))] []) (2 * n.stops.length, B0) ⟨hb0, hm0, hF, Nat.le_refl _⟩ ?_ ?_
    · refine ref_st (fun y => if y = 1002 then nid 4 31 else y) rfl ⟨⟨rfl, rfl⟩, ⟨rfl, rfl⟩, ⟨?_, rfl⟩, trivial⟩ ⟨⟨rfl, wavs_imm _⟩, rfl, ?_, trivial⟩ (by simp [nid]) rfl (by simp [lookM])
      · show AV.own _ _ _ = AV.own _ _ ((nats B0.q).map intRow).length
        rw [hFq]; rfl
      · show some _ = some (O.arr _ _ ((nats B0.q).map intRow))
        rw [hFq]; rfl
    rintro ⟨m, a⟩ ⟨hg, hm, hb, hmN⟩
    simp only at hg hm hb hmN
    cases hq : a.q with
    | nil =>
      have ha : a = F := by
        rw [← hb]
        cases m with
        | zero => rfl
        | succ m => rw [bfs, hq]
      subst ha
      repeat' first | refine go_seq ?_ | refine go_region ?_ | ((first | refine go_op rfl ?_ | refine go_nil ?_ | refine go_storeBox rfl rfl rfl rfl rfl rfl ?_) <;> conv => whnf) | ((first | refine go_loadB ?_ | refine ⟨by kernel_rfl, ?_⟩ | refine go_ret ?_) <;> conv => whnf) | refine go_block ?_ | ((first | refine go_skip ?_ | refine go_exit ?_) <;> conv => whnf) | refine go_true rfl ?_ | refine go_false rfl ?_ | refine go_cond rfl (fun h => ?_) (fun h => ?_) | refine ⟨rfl, ?_⟩ | ((first | refine ⟨trivial, ?_⟩ | refine ⟨le_of_ble rfl, ?_⟩) <;> conv => whnf) | fail
      all_goals first
        | exact ret_own rfl rfl rfl rfl rfl (by first | rfl | (rw [List.drop_zero, List.take_of_length_le (by rw [List.length_map, hg.len, es]; exact Nat.le_refl _)])) (int_gr _)
        | (exfalso; simp [nats] at h; done)
        | trace_state
    | cons s rest =>
      obtain ⟨m, rfl⟩ : ∃ m', m = m' + 1 := ⟨m - 1, by unfold mes at hm; rw [hq, List.length_cons] at hm; omega⟩
      rw [bfs, hq] at hb
      simp only at hb
      obtain ⟨hg', hm', _, _⟩ := hg.next hok (by omega) hq
      have hsN := hg.qr s (by rw [hq]; exact List.mem_cons_self ..)
      have hsb := hg.bd s
      have hrow : ((nats (s :: rest)).map intRow)[0]? = some [.int .i64 (s : Int)] := rfl
      have hl0 : 0 < ((nats (s :: rest)).map intRow).length := by simp [nats]
      have hmq : (s :: rest).length ≤ 2000 := by unfold mes at hm; rw [hq] at hm; omega
      repeat' first | refine go_seq ?_ | refine go_region ?_ | ((first | refine go_op rfl ?_ | refine go_nil ?_ | refine go_storeBox rfl rfl rfl rfl rfl rfl ?_ | refine go_idxOwnI (j := 0) rfl rfl rfl rfl rfl rfl rfl hl0 ?_ | refine go_loadEl (i := 0) rfl rfl rfl hrow ?_) <;> conv => whnf) | ((first | refine go_loadB ?_ | refine ⟨by kernel_rfl, ?_⟩ | refine go_ret ?_) <;> conv => whnf) | refine go_block ?_ | ((first | refine go_skip ?_ | refine go_exit ?_) <;> conv => whnf) | refine go_true rfl ?_ | refine go_false rfl ?_ | refine go_cond rfl (fun h => ?_) (fun h => ?_) | refine ⟨rfl, ?_⟩ | ((first | refine ⟨trivial, ?_⟩ | refine ⟨le_of_ble rfl, ?_⟩) <;> conv => whnf) | fail
      all_goals first
        | (exfalso; simp [nats] at h; done)
        | skip
      refine go_loop (α := Nat) (fun j => j ≤ n.lines.length) (fun j => n.lines.length - j)
        (fun j => st Try.f15.ntmps [(2, .box 1000 0), (5, .own 1001 0 (n.stops.map strRow).length), (7, .own 1002 0 ((nats ((n.lines.take j).foldl (linB s) a).q).map intRow).length), (8, .imm (.int .i64 (s : Int))), (41, .imm (.list (n.lines.map Line.enc))), (42, .imm (.int .i64 (n.lines.map Line.enc).length)), (43, .imm (.int .i64 (j : Nat)))]
          [(1000, .box 27 (n.enc.map .imm)), (1001, .arr 3 1 (((n.lines.take j).foldl (linB s) a).o.map intRow)), (1002, .arr 3 1 ((nats ((n.lines.take j).foldl (linB s) a).q).map intRow))] []) 0 (Nat.zero_le _) ?_ ?_
      · refine ref_st id rfl ⟨⟨rfl, rfl⟩, ⟨rfl, rfl⟩, ⟨?_, rfl⟩, rfl, rfl, rfl, rfl, trivial⟩ ⟨⟨rfl, wavs_imm _⟩, rfl, ?_, trivial⟩ (by simp) rfl (by simp)
        · show AV.own _ _ _ = AV.own _ _ ((nats a.q).map intRow).length
          rw [hq]; rfl
        · show some _ = some (O.arr _ _ ((nats a.q).map intRow))
          rw [hq]
      intro j hj
      obtain ⟨hst, _⟩ := foldL_st (ls := n.lines) (s := s) (ms := n.lines.take j) (a := a) (fun l hl => ⟨List.mem_of_mem_take hl, by rw [hg.len]; exact hok l (List.mem_of_mem_take hl)⟩) ⟨hsN.2, by omega⟩
      cases hx : n.lines[j]? with
      | none =>
        have hge := le_of_at hx
        rw [List.take_of_length_le hge] at hst ⊢
        obtain ⟨nw, hq1, hq2, hq3⟩ := hst.que
        have hR : n.lines.foldl (linB s) a = rndB n.lines s a := rfl
        rw [hR] at hst hq1 hq2 hq3 ⊢
        have hnx : nxtB n.lines s a = ⟨(rndB n.lines s a).o, (rndB n.lines s a).q.tail⟩ := rfl
        generalize rndB n.lines s a = R at *
        have hqe : R.q = s :: (rest ++ nw) := by rw [hq1, hq]; rfl
        have hk1 : 1 ≤ ((nats R.q).map intRow).length := by rw [hqe]; simp [nats]
        have hrw : (((nats R.q).map intRow).drop 1).take (((nats R.q).map intRow).length - 1) = (nats R.q.tail).map intRow := by
          rw [hqe]
          show ((nats (rest ++ nw)).map intRow).take _ = _
          exact List.take_of_length_le (by simp [nats])
        have hl2 : ((nats R.q.tail).map intRow).length = ((nats R.q).map intRow).length - 1 := by rw [hqe]; simp [nats]
        repeat' first | (refine go_exactD tyOk (s := 36) (id := 1002) (id' := 6000) (off := 1) (len := ((nats R.q).map intRow).length - 1) (ty := 3) (sz := 1) (rows2 := (nats R.q.tail).map intRow) rfl rfl hrw hl2 (List.all_eq_true.2 (int_gr _)) rfl ?_; intro o1 c1; conv => whnf) | (refine go_owned tyOk (s := 36) (id := 6000) (id' := 6001) (ty := 3) (sz := 1) (rows := (nats R.q.tail).map intRow) (v := .slice o1 ((nats R.q.tail).map intRow).length c1) rfl rfl (fun w F h => h) rfl ?_; conv => whnf) | refine go_seq ?_ | refine go_region ?_ | ((first | refine go_op rfl ?_ | refine go_nil ?_ | refine go_storeBox rfl rfl rfl rfl rfl rfl ?_ | refine go_sliceFrom (k := 1) rfl rfl rfl rfl rfl rfl hk1 ?_) <;> conv => whnf) | ((first | refine go_loadB ?_ | refine ⟨by kernel_rfl, ?_⟩ | refine go_ret ?_) <;> conv => whnf) | refine go_block ?_ | ((first | refine go_skip ?_ | refine go_exit ?_) <;> conv => whnf) | refine go_true rfl ?_ | refine go_false rfl ?_ | refine go_cond rfl (fun h => ?_) (fun h => ?_) | refine ⟨rfl, ?_⟩ | ((first | refine ⟨trivial, ?_⟩ | refine ⟨le_of_ble rfl, ?_⟩) <;> conv => whnf) | fail
        all_goals first
          | (exfalso; simp only [decide_eq_true_eq, List.length_map] at *; omega)
          | skip
        refine go_next (m, nxtB n.lines s a) ⟨hg', by show mes (nxtB n.lines s a) ≤ m; omega, hb, by show m ≤ _; omega⟩ (by show m < m + 1; omega) (ref_st (fun y => if y = 1002 then 6001 else y) rfl ⟨⟨rfl, rfl⟩, ⟨rfl, rfl⟩, ⟨?_, rfl⟩, trivial⟩ ⟨⟨rfl, wavs_imm _⟩, ?_, ?_, trivial⟩ (by simp) rfl (by simp [lookM]))
        · show AV.own _ _ _ = AV.own _ _ ((nats (nxtB n.lines s a).q).map intRow).length
          rw [hnx]; rfl
        · show some _ = some (O.arr _ _ ((nxtB n.lines s a).o.map intRow))
          rw [hnx]
        · show some _ = some (O.arr _ _ ((nats (nxtB n.lines s a).q).map intRow))
          rw [hnx]
      | some l =>
        have hlt := lt_of_at hx
        have hlm := List.mem_of_getElem? hx
        have hr := row_at Line.enc hx
        have hfl := f4 l hlm
        have hln := hok l hlm
        have hI := c27 l.stops (s : Int) hfl.2.1
        have hfn := fold_next (g := linB s) (b := a) hx
        generalize hbj : (n.lines.take j).foldl (linB s) a = bj at *
        by_cases hneg : idxF (pInt (s : Int)) l.stops < 0
        · have hlin : linB s bj l = bj := by unfold linB; rw [if_pos hneg]
          repeat' first | refine go_seq ?_ | refine go_region ?_ | ((first | refine go_op rfl ?_ | refine go_nil ?_ | refine go_storeBox rfl rfl rfl rfl rfl rfl ?_ | refine go_call [] (hI) rfl rfl rfl rfl ?_ | refine go_idx rfl rfl rfl rfl (by omega) hr rfl ?_) <;> conv => whnf) | ((first | refine go_loadB ?_ | refine ⟨by kernel_rfl, ?_⟩ | refine go_ret ?_) <;> conv => whnf) | refine go_block ?_ | ((first | refine go_skip ?_ | refine go_exit ?_) <;> conv => whnf) | refine go_true rfl ?_ | refine go_false rfl ?_ | refine go_cond rfl (fun h => ?_) (fun h => ?_) | refine ⟨rfl, ?_⟩ | ((first | refine ⟨trivial, ?_⟩ | refine ⟨le_of_ble rfl, ?_⟩) <;> conv => whnf) | fail
          all_goals first
            | (exfalso; simp only [decide_eq_true_eq, decide_eq_false_iff_not, List.length_map] at *; omega)
            | skip
          have e : (n.lines.take (j + 1)).foldl (linB s) a = bj := by rw [hfn, hlin]
          refine go_next (j + 1) (by show j + 1 ≤ _; omega) (by show _ - (j + 1) < _ - j; omega) (ref_st id rfl ⟨⟨rfl, rfl⟩, ⟨rfl, rfl⟩, ⟨?_, rfl⟩, rfl, rfl, rfl, next_i (by omega), trivial⟩ ⟨⟨rfl, wavs_imm _⟩, ?_, ?_, trivial⟩ (by simp) rfl (by simp))
          · show AV.own _ _ _ = AV.own _ _ ((nats ((n.lines.take (j + 1)).foldl (linB s) a).q).map intRow).length
            rw [e]; rfl
          · show some _ = some (O.arr _ _ (((n.lines.take (j + 1)).foldl (linB s) a).o.map intRow))
            rw [e]
          · show some _ = some (O.arr _ _ ((nats ((n.lines.take (j + 1)).foldl (linB s) a).q).map intRow))
            rw [e]
        · obtain ⟨i, ei, hi'⟩ := idx_at (xs := l.stops) (y := (s : Int)) (by omega)
          rw [ei] at hI
          have hlin : linB s bj l = (l.stops.drop (i + 1)).foldl (visB s) bj := by unfold linB; rw [if_neg hneg, ei, show (((i : Nat) : Int) + 1).toNat = i + 1 from by omega]
          have hil := (List.getElem?_eq_some_iff.1 hi').1
          have hwi : IntKind.i64.wrap (((i : Nat) : Int) + 1) = ((i + 1 : Nat) : Int) := by rw [wrap_small (by omega) (by have := hfl.2.1; omega)]; omega
          have hk' : i + 1 ≤ (l.stops.map intRow).length := by rw [List.length_map]; omega
          have hh : AV.imm (.int .i64 (IntKind.i64.wrap (((i : Nat) : Int) + 1))) = AV.imm (.int .i64 ((i + 1 : Nat) : Int)) := by rw [hwi]
          repeat' first | refine go_seq ?_ | refine go_region ?_ | ((first | refine go_op rfl ?_ | refine go_nil ?_ | refine go_storeBox rfl rfl rfl rfl rfl rfl ?_ | refine go_call [] (hI) rfl rfl rfl rfl ?_ | refine go_idx rfl rfl rfl rfl (by omega) hr rfl ?_ | refine go_sliceFromI (k := i + 1) rfl rfl rfl (ints_sz _) hh hk' ?_) <;> conv => whnf) | ((first | refine go_loadB ?_ | refine ⟨by kernel_rfl, ?_⟩ | refine go_ret ?_) <;> conv => whnf) | refine go_block ?_ | ((first | refine go_skip ?_ | refine go_exit ?_) <;> conv => whnf) | refine go_true rfl ?_ | refine go_false rfl ?_ | refine go_cond rfl (fun h => ?_) (fun h => ?_) | refine ⟨rfl, ?_⟩ | ((first | refine ⟨trivial, ?_⟩ | refine ⟨le_of_ble rfl, ?_⟩) <;> conv => whnf) | fail
          all_goals first
            | (exfalso; simp only [decide_eq_true_eq, decide_eq_false_iff_not, List.length_map] at *; omega)
            | skip
          rw [← List.map_drop]
          have hlnN : LnOk n.stops.length l := hln
          have haft := after_ok hlm hlnN hi'
          have hys : ∀ (k : Nat) (y : Int), (l.stops.drop (i + 1))[k]? = some y → 0 ≤ y := fun k y hy => by
            rw [List.getElem?_drop] at hy
            exact (hln _ _ hy).1.1
          have hyl : (l.stops.drop (i + 1)).length ≤ 1048576 := by rw [List.length_drop]; have := hfl.2.1; omega
          have hkb := hst.keep s hsN.2
          have hlb : bj.o.length = n.stops.length := by rw [hst.len, hg.len]
          generalize l.stops.drop (i + 1) = ys at *
          refine go_loop (α := Nat) (fun k => k ≤ ys.length) (fun k => ys.length - k)
            (fun k => st Try.f15.ntmps [(2, .box 1000 0), (5, .own 1001 0 (n.stops.map strRow).length), (7, .own 1002 0 ((nats ((ys.take k).foldl (visB s) bj).q).map intRow).length), (8, .imm (.int .i64 (s : Int))), (41, .imm (.list (n.lines.map Line.enc))), (42, .imm (.int .i64 (n.lines.map Line.enc).length)), (43, .imm (.int .i64 (j : Nat))), (57, .imm (.list (ys.map intRow))), (58, .imm (.int .i64 (ys.map intRow).length)), (59, .imm (.int .i64 (k : Nat)))]
              [(1000, .box 27 (n.enc.map .imm)), (1001, .arr 3 1 (((ys.take k).foldl (visB s) bj).o.map intRow)), (1002, .arr 3 1 ((nats ((ys.take k).foldl (visB s) bj).q).map intRow))] []) 0 (Nat.zero_le _) ?_ ?_
          · exact ref_st id rfl ⟨⟨rfl, rfl⟩, ⟨rfl, rfl⟩, ⟨rfl, rfl⟩, rfl, rfl, rfl, rfl, rfl, rfl, rfl, trivial⟩ ⟨⟨rfl, wavs_imm _⟩, rfl, rfl, trivial⟩ (by simp) rfl (by simp)
          intro k hk
          obtain ⟨hsc, _⟩ := foldB_st (ls := n.lines) (s := s) (ys := ys.take k) (a := bj) (by omega) (fun y hy => by rw [hlb]; exact haft y (List.mem_of_mem_take hy))
          cases hy : ys[k]? with
          | none =>
            have hge := le_of_at hy
            rw [List.take_of_length_le hge]
            have e : (n.lines.take (j + 1)).foldl (linB s) a = ys.foldl (visB s) bj := by rw [hfn, hlin]
            repeat' first | refine go_seq ?_ | refine go_region ?_ | ((first | refine go_op rfl ?_ | refine go_nil ?_ | refine go_storeBox rfl rfl rfl rfl rfl rfl ?_) <;> conv => whnf) | ((first | refine go_loadB ?_ | refine ⟨by kernel_rfl, ?_⟩ | refine go_ret ?_) <;> conv => whnf) | refine go_block ?_ | ((first | refine go_skip ?_ | refine go_exit ?_) <;> conv => whnf) | refine go_true rfl ?_ | refine go_false rfl ?_ | refine go_cond rfl (fun h => ?_) (fun h => ?_) | refine ⟨rfl, ?_⟩ | ((first | refine ⟨trivial, ?_⟩ | refine ⟨le_of_ble rfl, ?_⟩) <;> conv => whnf) | fail
            all_goals first
              | (exfalso; simp only [decide_eq_true_eq, decide_eq_false_iff_not, List.length_map] at *; omega)
              | skip
            refine go_next (j + 1) (by show j + 1 ≤ _; omega) (by show _ - (j + 1) < _ - j; omega) (ref_st id rfl ⟨⟨rfl, rfl⟩, ⟨rfl, rfl⟩, ⟨?_, rfl⟩, rfl, rfl, rfl, next_i (by omega), trivial⟩ ⟨⟨rfl, wavs_imm _⟩, ?_, ?_, trivial⟩ (by simp) rfl (by simp))
            · show AV.own _ _ _ = AV.own _ _ ((nats ((n.lines.take (j + 1)).foldl (linB s) a).q).map intRow).length
              rw [e]; rfl
            · show some _ = some (O.arr _ _ (((n.lines.take (j + 1)).foldl (linB s) a).o.map intRow))
              rw [e]
            · show some _ = some (O.arr _ _ ((nats ((n.lines.take (j + 1)).foldl (linB s) a).q).map intRow))
              rw [e]
          | some y =>
            have hltk := lt_of_at hy
            have hry := row_at intRow hy
            have hy0 := hys _ _ hy
            obtain ⟨hyN, _⟩ := haft y (List.mem_of_getElem? hy)
            have hfk := fold_next (g := visB s) (b := bj) hy
            have hcl : ((ys.take k).foldl (visB s) bj).o.length = n.stops.length := by rw [hsc.len, hlb]
            have hcq : (nats ((ys.take k).foldl (visB s) bj).q).length ≤ 10000 := by
              obtain ⟨w1, p1, _, p2⟩ := hst.que
              obtain ⟨w2, p3, _, p4⟩ := hsc.que
              have u1 := un_le a.o
              have u2 := un_le bj.o
              rw [hg.len] at u1
              rw [hlb] at u2
              unfold nats
              rw [List.length_map, p3, p1, hq, List.length_append, List.length_append]
              omega
            have hcs : 0 ≤ oN ((ys.take k).foldl (visB s) bj).o s := by rw [hsc.keep s (by omega)]; omega
            generalize (ys.take k).foldl (visB s) bj = c at *
            have hyI : y = ((y.toNat : Nat) : Int) := by omega
            have hyR : intRow y = intRow ((y.toNat : Nat) : Int) := by rw [← hyI]
            have hrw := row_at intRow (oN_at (o := c.o) (k := y.toNat) (by omega))
            have hrs := row_at intRow (oN_at (o := c.o) (k := s) (by omega))
            have hl1 : y.toNat < (n.stops.map strRow).length := by omega
            have hl2 : s < (n.stops.map strRow).length := by omega
            have hbd : ((nats c.q).map intRow).length + 1 ≤ 1073741824 := by rw [List.length_map]; omega
            by_cases hneg2 : oN c.o y.toNat < 0
            · have hv : visB s c y = ⟨c.o.set y.toNat (IntKind.i64.wrap (oN c.o s + 1)), c.q ++ [y.toNat]⟩ := by unfold visB; rw [if_pos hneg2]
              have hqn : (nats (c.q ++ [y.toNat])).map intRow = (nats c.q).map intRow ++ [intRow y] := by rw [hyR]; simp [nats]
              have hset : (c.o.map intRow).set y.toNat [.int .i64 (IntKind.i64.wrap (oN c.o s + 1))] = (c.o.set y.toNat (IntKind.i64.wrap (oN c.o s + 1))).map intRow := rows_set
              repeat' first | refine go_seq ?_ | refine go_region ?_ | ((first | refine go_op rfl ?_ | refine go_nil ?_ | refine go_storeBox rfl rfl rfl rfl rfl rfl ?_ | refine go_idx rfl rfl rfl rfl (by omega) hry rfl ?_ | refine go_idxOwnI (j := y.toNat) rfl rfl hyI rfl rfl rfl rfl hl1 ?_ | refine go_idxOwnI (j := s) rfl rfl rfl rfl rfl rfl rfl hl2 ?_ | refine go_loadEl (i := y.toNat) rfl rfl rfl hrw ?_ | refine go_loadEl (i := s) rfl rfl rfl hrs ?_ | refine go_storeRow rfl rfl rfl rfl hrw rfl rfl hset ?_ | refine go_append (rows2 := [intRow y]) rfl rfl rfl rfl rfl rfl rfl rfl rfl rfl rfl rfl rfl rfl rfl rfl hbd ?_) <;> conv => whnf) | ((first | refine go_loadB ?_ | refine ⟨by kernel_rfl, ?_⟩ | refine go_ret ?_) <;> conv => whnf) | refine go_block ?_ | ((first | refine go_skip ?_ | refine go_exit ?_) <;> conv => whnf) | refine go_true rfl ?_ | refine go_false rfl ?_ | refine go_cond rfl (fun h => ?_) (fun h => ?_) | refine ⟨rfl, ?_⟩ | ((first | refine ⟨trivial, ?_⟩ | refine ⟨le_of_ble rfl, ?_⟩) <;> conv => whnf) | fail
              all_goals first
                | (exfalso; simp only [decide_eq_true_eq, decide_eq_false_iff_not, List.length_map] at *; omega)
                | skip
              have e : (ys.take (k + 1)).foldl (visB s) bj = ⟨c.o.set y.toNat (IntKind.i64.wrap (oN c.o s + 1)), c.q ++ [y.toNat]⟩ := by rw [hfk, hv]
              refine go_next (k + 1) (by show k + 1 ≤ _; omega) (by show _ - (k + 1) < _ - k; omega) (ref_st (fun z => if z = 1002 then nid 6 79 else z) rfl ⟨⟨rfl, rfl⟩, ⟨rfl, rfl⟩, ⟨?_, rfl⟩, rfl, rfl, rfl, rfl, rfl, rfl, next_i (by omega), trivial⟩ ⟨⟨rfl, wavs_imm _⟩, ?_, ?_, trivial⟩ (by simp [nid]) rfl (by simp [lookM]))
              · show AV.own _ _ _ = AV.own _ _ ((nats ((ys.take (k + 1)).foldl (visB s) bj).q).map intRow).length
                rw [e]; show _ = AV.own _ _ ((nats (c.q ++ [y.toNat])).map intRow).length; rw [hqn, List.length_append]; rfl
              · show some _ = some (O.arr _ _ (((ys.take (k + 1)).foldl (visB s) bj).o.map intRow))
                rw [e]
              · show some _ = some (O.arr _ _ ((nats ((ys.take (k + 1)).foldl (visB s) bj).q).map intRow))
                rw [e]; show _ = some (O.arr _ _ ((nats (c.q ++ [y.toNat])).map intRow)); rw [hqn]; rfl
            · have hv : visB s c y = c := by unfold visB; rw [if_neg hneg2]
              repeat' first | refine go_seq ?_ | refine go_region ?_ | ((first | refine go_op rfl ?_ | refine go_nil ?_ | refine go_storeBox rfl rfl rfl rfl rfl rfl ?_ | refine go_idx rfl rfl rfl rfl (by omega) hry rfl ?_ | refine go_idxOwnI (j := y.toNat) rfl rfl hyI rfl rfl rfl rfl hl1 ?_ | refine go_loadEl (i := y.toNat) rfl rfl rfl hrw ?_) <;> conv => whnf) | ((first | refine go_loadB ?_ | refine ⟨by kernel_rfl, ?_⟩ | refine go_ret ?_) <;> conv => whnf) | refine go_block ?_ | ((first | refine go_skip ?_ | refine go_exit ?_) <;> conv => whnf) | refine go_true rfl ?_ | refine go_false rfl ?_ | refine go_cond rfl (fun h => ?_) (fun h => ?_) | refine ⟨rfl, ?_⟩ | ((first | refine ⟨trivial, ?_⟩ | refine ⟨le_of_ble rfl, ?_⟩) <;> conv => whnf) | fail
              all_goals first
                | (exfalso; simp only [decide_eq_true_eq, decide_eq_false_iff_not, List.length_map] at *; omega)
                | skip
              have e : (ys.take (k + 1)).foldl (visB s) bj = c := by rw [hfk, hv]
              refine go_next (k + 1) (by show k + 1 ≤ _; omega) (by show _ - (k + 1) < _ - k; omega) (ref_st id rfl ⟨⟨rfl, rfl⟩, ⟨rfl, rfl⟩, ⟨?_, rfl⟩, rfl, rfl, rfl, rfl, rfl, rfl, next_i (by omega), trivial⟩ ⟨⟨rfl, wavs_imm _⟩, ?_, ?_, trivial⟩ (by simp) rfl (by simp))
              · show AV.own _ _ _ = AV.own _ _ ((nats ((ys.take (k + 1)).foldl (visB s) bj).q).map intRow).length
                rw [e]; rfl
              · show some _ = some (O.arr _ _ (((ys.take (k + 1)).foldl (visB s) bj).o.map intRow))
                rw [e]
              · show some _ = some (O.arr _ _ ((nats ((ys.take (k + 1)).foldl (visB s) bj).q).map intRow))
                rw [e]
end Go.Proofs.Yteoiohkdhdpkoaa

