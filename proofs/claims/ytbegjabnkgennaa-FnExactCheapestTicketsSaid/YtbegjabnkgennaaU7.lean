/- The program's cheapest tickets: the weeks' lists are told by their blocks. -/
import Derived.Test.YtbegjabnkgennaaU6
import Derived.Test.YtbegjabnkgennaaAmHP
namespace Go.Am
open Go
theorem ret_iab {T : TypeId → Option TI} {fn : Func} {ins : List In} {r1 r2 r3 : ResultVar} {id off len ty sz : Nat} {rows rows' : List (List D)} {a a' c c' : D} {σ : S} (hr : fn.results.toList = [r1, r2, r3]) (hm : mutIdx ins = []) (hp : σ.pm = []) (hv1 : retAV T σ r1 = .imm a') (ha : a' = a) (hga : a.gr' = true) (hv : retAV T σ r2 = .own id off len)
    (hmm : σ.m id = some (.arr ty sz rows')) (hd : (rows'.drop off).take len = rows) (hg : ∀ x ∈ rows, x.all D.gr = true) (hv3 : retAV T σ r3 = .imm c') (hc : c' = c) (hgc : c.gr' = true) :
    retQ T fn ins { res := [.imm a, .arr ty sz rows, .imm c] } .ret σ :=
  ret_all (avs := [.imm a', .own id off len, .imm c']) (by rw [hr]; simp only [List.map_cons, List.map_nil, hv1, hv, hv3]) ⟨ret1_imm ha hga, ret1_arr hmm hd hg (by rw [hp]; simp), ret1_imm hc hgc, trivial⟩ (by simp [ownIds]) (by rw [hp]; exact List.nodup_nil) (by rw [hm, hp]; trivial)
end Go.Am
namespace Go.Proofs.Ytbegjabnkgennaa
open Go Go.Am
set_option maxRecDepth 100000
set_option maxHeartbeats 16000000
attribute [local irreducible] amOps amC opCall opIndexAddr opPick retQ opMake opStore amDraw opAppend opLoad opNilCmp opIndex opSlice

abbrev Cell := Value × List (List D)
def nilC : Cell := (.slice none 0 0, [])
def outC (xs : List Cell) : List (List D) := xs.map fun x => [.other x.1]
def rowsI (l : List Int) : List (List D) := l.map intRow
def wksL (W : Int) (ds cs : List Int) : List (List Int) := (full W ds cs).map (·.2)
theorem wksL_at {W : Int} {ds cs : List Int} {i : Nat} (h : i ≤ ds.length) : (wksL W ds cs)[i]? = some (fAt W ds cs i).2 := by
  unfold wksL
  rw [List.getElem?_map, full_at h]; rfl
theorem wksL_len {W : Int} {ds cs : List Int} : (wksL W ds cs).length = ds.length + 1 := by unfold wksL; rw [List.length_map, full_len]
theorem wks_0 {W : Int} {ds cs : List Int} : half [] (wksL W ds cs) ds.length = List.replicate (ds.length + 1) [] := by
  unfold half
  have h := full_drop (W := W) (ds := ds) (cs := cs) (Nat.le_refl ds.length)
  have e : (wksL W ds cs).drop ds.length = [[]] := by
    unfold wksL
    rw [← List.map_drop, h, Nat.sub_self]; rfl
  rw [e, List.replicate_succ']

/-- The weeks' cells, k places still to come. -/
structure WkI (W : Int) (ds cs : List Int) (k : Nat) (xs cells : List Cell) : Prop where
  le : k ≤ ds.length
  mem : ∀ c ∈ cells, c ∈ xs
  shp : ∀ c ∈ xs, ∃ (a : Option Addr) (n m : Nat), c.1 = .slice a n m
  val : cells.map (·.2) = (half [] (wksL W ds cs) k).map rowsI
theorem WkI.len {W : Int} {ds cs : List Int} {k : Nat} {xs cells : List Cell} (h : WkI W ds cs k xs cells) : cells.length = ds.length + 1 := by
  have h1 := congrArg List.length h.val
  rw [List.length_map, List.length_map, half_len (by rw [wksL_len]; have := h.le; omega), wksL_len] at h1
  exact h1
theorem WkI.at {W : Int} {ds cs : List Int} {k : Nat} {xs cells : List Cell} (h : WkI W ds cs k xs cells) {j : Nat} (h1 : k ≤ j) (h2 : j ≤ ds.length) : ∃ x, cells[j]? = some x ∧ x ∈ xs ∧ x.2 = rowsI (fAt W ds cs j).2 := by
  have hl := h.len
  have hj : j < cells.length := by omega
  refine ⟨cells[j], List.getElem?_eq_getElem hj, h.mem _ (List.getElem_mem hj), ?_⟩
  have h3 : (cells.map (·.2))[j]? = ((half [] (wksL W ds cs) k).map rowsI)[j]? := by rw [h.val]
  rw [List.getElem?_map, List.getElem?_map, half_ge h1, wksL_at h2, List.getElem?_eq_getElem hj] at h3
  injection h3
theorem WkI.step {W : Int} {ds cs : List Int} {i : Nat} {xs xs' cells : List Cell} (h : WkI W ds cs (i + 1) xs cells) {x : Cell} (hx : x ∈ xs') (hs : ∀ c ∈ xs, c ∈ xs') (hsh : ∀ c ∈ xs', ∃ (a : Option Addr) (n m : Nat), c.1 = .slice a n m) (hv : x.2 = rowsI (fAt W ds cs i).2) : WkI W ds cs i xs' (cells.set i x) := by
  have hle := h.le
  refine ⟨by omega, fun c hc => ?_, hsh, ?_⟩
  · rcases List.mem_or_eq_of_mem_set hc with hc | rfl
    · exact hs c (h.mem c hc)
    · exact hx
  · rw [List.map_set, h.val, hv, ← List.map_set, half_set (wksL_at (by omega))]
theorem WkI.init {W : Int} {ds cs : List Int} : WkI W ds cs ds.length [nilC] (List.replicate (ds.length + 1) nilC) := by
  refine ⟨Nat.le_refl _, fun c hc => by rw [List.eq_of_mem_replicate hc]; exact List.mem_singleton.2 rfl, fun c hc => ⟨none, 0, 0, by rw [List.mem_singleton.1 hc]; rfl⟩, ?_⟩
  rw [wks_0, List.map_replicate, List.map_replicate]
  rfl
theorem inn_nil (ti : Nat) (w : World) : ExtAt (InnI ti 1 [nilC]) w fun _ => False := by
  refine InnI.ext ⟨fun _ _ => False, fun _ _ h => h, fun _ _ _ h => h.elim, fun j x hx => ?_⟩
  cases j with
  | zero =>
    simp at hx
    subst hx
    exact ⟨fun r hr => (by cases hr), Nat.zero_lt_one, .inl ⟨rfl, rfl⟩⟩
  | succ j => simp at hx
theorem joinC {ti : Nat} {xs : List Cell} {v : Value} {r : List (List D)} : ∀ w F1 F2, ExtAt (InnI ti 1 xs) w F1 → ExtAt (FlatI ti 1 r v) w F2 → (∀ b, ¬ (F1 b ∧ F2 b)) → ExtAt (InnI ti 1 (xs ++ [(v, r)])) w fun b => F1 b ∨ F2 b :=
  fun _ _ _ h1 h2 hd => (InnI.add h1.now h2.now fun b hb => hd b ⟨hb.2, hb.1⟩).ext

theorem c9 (p : Prices) (hpf : p.fit) (rs : List Ride) (hl : rs.length ≤ 1048576) :
    CallOk Try.prog 9 [.imm (.agg p.enc), .imm (.list (rs.map Ride.enc))] { res := [.imm (.int .i64 (ctSum p rs)), .arr 3 1 ((ctWks p rs).map intRow), .imm (.bool (ctOk p rs))] } := by
  refine callOk_of tyOk Try.func9 rfl rfl (le_of_ble rfl) (le_of_ble rfl) (mutOk_imm rfl _) ?_
  have hc1 := c26 p hpf
  have hc2 := c27 rs hl
  cases hok : ctOk p rs with
  | false =>
    have e1 : ctSum p rs = 0 := by unfold ctSum; rw [hok]; rfl
    have e2 : ctWks p rs = [] := by unfold ctWks; rw [hok]; rfl
    rw [e1, e2]
    unfold ctOk at hok
    cases b1 : prOk p <;> cases b2 : ridesOk rs <;> rw [b1] at hc1 <;> rw [b2] at hc2 <;> rw [b1, b2] at hok <;> (try (exfalso; simp at hok; done))
    all_goals
      repeat' first | refine go_seq ?_ | refine go_region ?_ | refine go_miss rfl rfl rfl ?_ | refine go_undef rfl rfl rfl ?_ | refine go_draw drawsOk ?_ | ((first | refine go_op rfl ?_ | refine go_nil ?_ | refine go_hit rfl rfl rfl ?_ | refine go_splitT rfl rfl rfl (fun h => ?_) (fun h => ?_) | refine go_splitF rfl rfl rfl (fun h => ?_) (fun h => ?_) | refine go_storeBox rfl rfl rfl rfl rfl rfl ?_ | refine go_dop rfl ?_ | refine go_dhit rfl rfl ?_ | refine go_dmiss rfl rfl ?_ | refine go_dundef rfl rfl ?_ | refine go_dend (by kernel_rfl) ?_ | refine go_pickT rfl ?_ | refine go_pickF rfl ?_ | refine go_pick rfl (fun h => ?_) (fun h => ?_) | refine go_call [] (hc1) rfl rfl rfl rfl ?_ | refine go_call [] (hc2) rfl rfl rfl rfl ?_) <;> conv => whnf) | ((first | refine go_dsplit2 rfl (fun h => ?_) (fun h => ?_) | refine go_loadB ?_ | refine ⟨by kernel_rfl, ?_⟩ | refine go_ret ?_) <;> conv => whnf) | refine go_block ?_ | ((first | refine go_skip ?_ | refine go_exit ?_) <;> conv => whnf) | refine go_true rfl ?_ | refine go_false rfl ?_ | refine go_cond rfl (fun h => ?_) (fun h => ?_) | refine ⟨rfl, ?_⟩ | ((first | refine ⟨trivial, ?_⟩ | refine ⟨le_of_ble rfl, ?_⟩) <;> conv => whnf) | fail
    all_goals first
      | (refine ret_iab rfl rfl rfl rfl rfl rfl rfl rfl rfl (by intro r hr; cases hr) rfl rfl rfl
         done)
      | (exfalso; simp_all; done)
      | trace_state
  | true =>
    have hT := ct_okT hok
    have e1 : ctSum p rs = (fAt p.week (dsOf rs) (csOf p rs) 0).1 := by unfold ctSum; rw [hok]; rfl
    have e2 : ctWks p rs = (fAt p.week (dsOf rs) (csOf p rs) 0).2 := by unfold ctWks; rw [hok]; rfl
    rw [e1, e2]
    unfold ctOk at hok
    simp only [Bool.and_eq_true] at hok
    obtain ⟨b1, b2⟩ := hok
    have hc3 : CallOk Try.prog 28 [.imm (.agg p.enc), .imm (.list (rs.map Ride.enc))] { res := [.arr 3 1 ((dsOf rs).map intRow), .arr 3 1 ((csOf p rs).map intRow)] } := c28 p rs b2
    rw [b1] at hc1
    rw [b2] at hc2
    have hlen := hT.len
    have hfew := hT.few
    generalize dsOf rs = ds at *
    generalize csOf p rs = cs at *
    have hdl : (ds.map intRow).length = ds.length := List.length_map _
    have hcl : (cs.map intRow).length = ds.length := by rw [List.length_map, hlen]
    have hmk : AV.imm (.int .i64 (IntKind.i64.wrap (((ds.map intRow).length : Int) + 1))) = .imm (.int .i64 ((ds.length + 1 : Nat) : Int)) := by
      rw [hdl, wrap_small (by omega) (by omega)]; rfl
    have hwn : IntKind.i64.wrap (((ds.map intRow).length : Int) - 1) = (ds.length : Int) - 1 := by rw [hdl]; exact wrap_small (by omega) (by omega)
    repeat' first | refine go_seq ?_ | refine go_region ?_ | refine go_miss rfl rfl rfl ?_ | refine go_undef rfl rfl rfl ?_ | refine go_draw drawsOk ?_ | ((first | refine go_op rfl ?_ | refine go_nil ?_ | refine go_hit rfl rfl rfl ?_ | refine go_splitT rfl rfl rfl (fun h => ?_) (fun h => ?_) | refine go_splitF rfl rfl rfl (fun h => ?_) (fun h => ?_) | refine go_storeBox rfl rfl rfl rfl rfl rfl ?_ | refine go_dop rfl ?_ | refine go_dhit rfl rfl ?_ | refine go_dmiss rfl rfl ?_ | refine go_dundef rfl rfl ?_ | refine go_dend (by kernel_rfl) ?_ | refine go_pickT rfl ?_ | refine go_pickF rfl ?_ | refine go_pick rfl (fun h => ?_) (fun h => ?_) | refine go_call [] (hc1) rfl rfl rfl rfl ?_ | refine go_call [] (hc2) rfl rfl rfl rfl ?_ | refine go_call [] (hc3) rfl rfl rfl rfl ?_ | refine go_makeN (i := ds.length + 1) rfl rfl hmk rfl rfl rfl rfl rfl rfl (by rw [hdl, wrap_small (by omega) (by omega)]; omega) (by rw [hdl, wrap_small (by omega) (by omega)]; omega) ?_) <;> conv => whnf) | ((first | refine go_dsplit2 rfl (fun h => ?_) (fun h => ?_) | refine go_loadB ?_ | refine ⟨by kernel_rfl, ?_⟩ | refine go_ret ?_) <;> conv => whnf) | refine go_block ?_ | ((first | refine go_skip ?_ | refine go_exit ?_) <;> conv => whnf) | refine go_true rfl ?_ | refine go_false rfl ?_ | refine go_cond rfl (fun h => ?_) (fun h => ?_) | refine ⟨rfl, ?_⟩ | ((first | refine ⟨trivial, ?_⟩ | refine ⟨le_of_ble rfl, ?_⟩) <;> conv => whnf) | fail
    all_goals try (exfalso; simp_all; done)
    refine go_loop (α := Nat × List Cell × List Cell) (fun q => WkI p.week ds cs q.1 q.2.1 q.2.2) (fun q => q.1)
      (fun q => st Try.f9.ntmps [(2, .box 1002 0), (7, .own 1000 0 (ds.map intRow).length), (8, .own 1001 0 (cs.map intRow).length), (9, .own 1004 0 (ds.length + 1)), (10, .own 1005 0 (ds.length + 1)), (11, .imm (.int .i64 ((q.1 : Nat) - 1 : Int)))]
        [(1000, .arr 3 1 (ds.map intRow)), (1001, .arr 3 1 (cs.map intRow)), (1002, .box 30 (p.enc.map .imm)), (1004, .arr 3 1 ((half 0 (sumsL p.week ds cs) q.1).map intRow)), (1005, .arr 22 1 (outC q.2.2)), (1006, .ext (InnI 3 1 q.2.1))] []) (ds.length, [nilC], List.replicate (ds.length + 1) nilC) WkI.init
      (Ref.trans (ref_newX (id := 3000) (I := InnI 3 1 [nilC]) rfl (inn_nil _)) (ref_st (fun y => if y = 1000 then rid 3 26 0 else if y = 1001 then rid 3 26 1 else if y = 1002 then nid 1 2 else if y = 1004 then nid 4 32 else if y = 1005 then nid 4 36 else 3000) rfl ⟨⟨rfl, rfl⟩, ⟨rfl, rfl⟩, ⟨rfl, rfl⟩, ⟨rfl, rfl⟩, ⟨rfl, rfl⟩, ?_, trivial⟩ ⟨rfl, rfl, ⟨rfl, wavs_imm _⟩, ?_, ?_, rfl, trivial⟩ (by simp [nid, rid]) rfl (by simp [lookM]))) ?_
    · show AV.imm _ = AV.imm _
      rw [hwn]
    · show some _ = some _
      rw [sums_0, List.map_replicate]; rfl
    · show some _ = some _
      unfold outC; rw [List.map_replicate]; rfl
    rintro ⟨k, xs, cells⟩ hI
    simp only at hI
    have hcll := hI.len
    have hk := hI.le
    cases k with
    | zero =>
      obtain ⟨x, hx1, hx2, hx3⟩ := hI.at (j := 0) (Nat.le_refl _) (by omega)
      obtain ⟨v, r⟩ := x
      simp only at hx3
      obtain ⟨jx, hjx⟩ := List.getElem?_of_mem hx2
      have h00 : ((half 0 (sumsL p.week ds cs) 0).map intRow)[0]? = some (intRow (fAt p.week ds cs 0).1) := by rw [List.getElem?_map, half_ge (Nat.le_refl _), sumsL_at (by omega)]; rfl
      have h01 : (outC cells)[0]? = some [.other v] := by unfold outC; rw [List.getElem?_map, hx1]; rfl
      have h0l : 0 < ds.length + 1 := by omega
      repeat' first | (refine ret_split (id := 1006) (id1 := 5000) (id2 := 5001) (X := Unit) (I1 := fun _ => FlatI 3 1 r v) (I2 := fun _ => InnO 3 1 xs jx) rfl rfl rfl rfl (fun w F hF => by obtain ⟨U, R, q1, q2, q3, q4⟩ := hF.now.take hjx; exact ⟨(), U, R, q1, q2, q3.ext, q4.ext⟩) ?_; intro _; conv => whnf) | (refine ret_owned (s := 5) (id := 5000) (id' := 5002) (ty := 3) (sz := 1) (rows := r) (v := v) rfl rfl (fun w F h => h) rfl ?_; conv => whnf) | refine go_seq ?_ | refine go_region ?_ | refine go_miss rfl rfl rfl ?_ | refine go_undef rfl rfl rfl ?_ | refine go_draw drawsOk ?_ | ((first | refine go_op rfl ?_ | refine go_nil ?_ | refine go_hit rfl rfl rfl ?_ | refine go_splitT rfl rfl rfl (fun h => ?_) (fun h => ?_) | refine go_splitF rfl rfl rfl (fun h => ?_) (fun h => ?_) | refine go_storeBox rfl rfl rfl rfl rfl rfl ?_ | refine go_dop rfl ?_ | refine go_dhit rfl rfl ?_ | refine go_dmiss rfl rfl ?_ | refine go_dundef rfl rfl ?_ | refine go_dend (by kernel_rfl) ?_ | refine go_pickT rfl ?_ | refine go_pickF rfl ?_ | refine go_pick rfl (fun h => ?_) (fun h => ?_) | refine go_idxOwnI (j := 0) rfl rfl rfl rfl rfl rfl rfl h0l ?_ | refine go_loadEl (i := 0) rfl rfl rfl h00 ?_ | refine go_loadEl (i := 0) rfl rfl rfl h01 ?_) <;> conv => whnf) | ((first | refine go_dsplit2 rfl (fun h => ?_) (fun h => ?_) | refine go_loadB ?_ | refine ⟨by kernel_rfl, ?_⟩ | refine go_ret ?_) <;> conv => whnf) | refine go_block ?_ | ((first | refine go_skip ?_ | refine go_exit ?_) <;> conv => whnf) | refine go_true rfl ?_ | refine go_false rfl ?_ | refine go_cond rfl (fun h => ?_) (fun h => ?_) | refine ⟨rfl, ?_⟩ | ((first | refine ⟨trivial, ?_⟩ | refine ⟨le_of_ble rfl, ?_⟩) <;> conv => whnf) | fail
      all_goals first
        | (refine ret_iab rfl rfl rfl rfl rfl rfl rfl rfl ?_ (int_gr _) rfl rfl rfl
           rw [hx3, List.drop_zero, List.take_length]; rfl
           done)
        | (exfalso; have h' := of_decide_eq_false h; omega)
        | (exfalso; have h' := of_decide_eq_true h; omega)
        | (exfalso; rename_i hq; have h' := of_decide_eq_true hq; omega)
        | (exfalso; rename_i hq; have h' := of_decide_eq_false hq; omega)
        | (exfalso; rename_i hq _; have h' := of_decide_eq_true hq; omega)
        | (exfalso; rename_i hq _; have h' := of_decide_eq_false hq; omega)
        | trace_state
    | succ i =>
      have hlt : i < ds.length := hk
      have e12 : ((i + 1 : Nat) : Int) - 1 = (i : Nat) := by omega
      have e13 : IntKind.i64.wrap (((i + 1 : Nat) : Int) - 1 + 1) = ((i + 1 : Nat) : Int) := by rw [wrap_small (by omega) (by omega)]; omega
      have e14 : IntKind.i64.wrap (((i + 1 : Nat) : Int) - 1 - 1) = (i : Nat) - 1 := by rw [wrap_small (by omega) (by omega)]; omega
      have hilc : i < (cs.map intRow).length := by omega
      have hild : i < (ds.map intRow).length := by omega
      obtain ⟨d, hd⟩ : ∃ d, ds[i]? = some d := ⟨_, List.getElem?_eq_getElem hlt⟩
      have hdd : ds.getD i 0 = d := by simp [List.getD_eq_getElem?_getD, hd]
      have hrd : (ds.map intRow)[i]? = some (intRow d) := by rw [List.getElem?_map, hd]; rfl
      have hdb := hT.day i
      rw [hdd] at hdb
      have hw7 : IntKind.i64.wrap (d + 7) = d + 7 := wrap_small (by omega) (by omega)
      repeat' first | refine go_seq ?_ | refine go_region ?_ | refine go_miss rfl rfl rfl ?_ | refine go_undef rfl rfl rfl ?_ | refine go_draw drawsOk ?_ | ((first | refine go_op rfl ?_ | refine go_nil ?_ | refine go_hit rfl rfl rfl ?_ | refine go_splitT rfl rfl rfl (fun h => ?_) (fun h => ?_) | refine go_splitF rfl rfl rfl (fun h => ?_) (fun h => ?_) | refine go_storeBox rfl rfl rfl rfl rfl rfl ?_ | refine go_dop rfl ?_ | refine go_dhit rfl rfl ?_ | refine go_dmiss rfl rfl ?_ | refine go_dundef rfl rfl ?_ | refine go_dend (by kernel_rfl) ?_ | refine go_pickT rfl ?_ | refine go_pickF rfl ?_ | refine go_pick rfl (fun h => ?_) (fun h => ?_)) <;> conv => whnf) | ((first | refine go_dsplit2 rfl (fun h => ?_) (fun h => ?_) | refine go_loadB ?_ | refine ⟨by kernel_rfl, ?_⟩ | refine go_ret ?_) <;> conv => whnf) | refine go_block ?_ | ((first | refine go_skip ?_ | refine go_exit ?_) <;> conv => whnf) | refine go_true rfl ?_ | refine go_false rfl ?_ | refine go_cond rfl (fun h => ?_) (fun h => ?_) | refine ⟨rfl, ?_⟩ | ((first | refine ⟨trivial, ?_⟩ | refine ⟨le_of_ble rfl, ?_⟩) <;> conv => whnf) | fail
      all_goals try first
        | (exfalso; have h' := of_decide_eq_false h; omega)
        | (exfalso; have h' := of_decide_eq_true h; omega)
        | (exfalso; rename_i hq; have h' := of_decide_eq_true hq; omega)
        | (exfalso; rename_i hq; have h' := of_decide_eq_false hq; omega)
        | (exfalso; rename_i hq _; have h' := of_decide_eq_true hq; omega)
        | (exfalso; rename_i hq _; have h' := of_decide_eq_false hq; omega)
      refine go_loop (α := Nat) (fun q => i ≤ q ∧ q ≤ ds.length ∧ ∀ j, i ≤ j → j < q → ds.getD j 0 < ds.getD i 0 + 7) (fun q => ds.length - q)
        (fun q => st Try.f9.ntmps [(2, .box 1002 0), (7, .own 1000 0 (ds.map intRow).length), (8, .own 1001 0 (cs.map intRow).length), (9, .own 1004 0 (ds.length + 1)), (10, .own 1005 0 (ds.length + 1)), (11, .imm (.int .i64 (((i + 1 : Nat) : Int) - 1))), (12, .imm (.int .i64 (q : Nat)))]
          [(1000, .arr 3 1 (ds.map intRow)), (1001, .arr 3 1 (cs.map intRow)), (1002, .box 30 (p.enc.map .imm)), (1004, .arr 3 1 ((half 0 (sumsL p.week ds cs) (i + 1)).map intRow)), (1005, .arr 22 1 (outC cells)), (1006, .ext (InnI 3 1 xs))] []) i ⟨Nat.le_refl _, by omega, fun j h1 h2 => by omega⟩
        (ref_st id rfl ⟨⟨rfl, rfl⟩, ⟨rfl, rfl⟩, ⟨rfl, rfl⟩, ⟨rfl, rfl⟩, ⟨rfl, rfl⟩, rfl, ?_, trivial⟩ ⟨rfl, rfl, ⟨rfl, wavs_imm _⟩, rfl, rfl, rfl, trivial⟩ (by simp) rfl (by simp [lookM])) ?_
      · show AV.imm _ = AV.imm _
        rw [e12]
      rintro q ⟨hq1, hq2, hq3⟩
      by_cases hgo : q < ds.length ∧ ds.getD q 0 < d + 7
      case pos =>
        obtain ⟨hql, hqy⟩ := hgo
        obtain ⟨y, hy⟩ : ∃ y, ds[q]? = some y := ⟨_, List.getElem?_eq_getElem hql⟩
        have hyy : ds.getD q 0 = y := by simp [List.getD_eq_getElem?_getD, hy]
        have hry : (ds.map intRow)[q]? = some (intRow y) := by rw [List.getElem?_map, hy]; rfl
        have hqld : q < (ds.map intRow).length := by omega
        rw [hyy] at hqy
        repeat' first | refine go_seq ?_ | refine go_region ?_ | refine go_miss rfl rfl rfl ?_ | refine go_undef rfl rfl rfl ?_ | refine go_draw drawsOk ?_ | ((first | refine go_op rfl ?_ | refine go_nil ?_ | refine go_hit rfl rfl rfl ?_ | refine go_splitT rfl rfl rfl (fun h => ?_) (fun h => ?_) | refine go_splitF rfl rfl rfl (fun h => ?_) (fun h => ?_) | refine go_storeBox rfl rfl rfl rfl rfl rfl ?_ | refine go_dop rfl ?_ | refine go_dhit rfl rfl ?_ | refine go_dmiss rfl rfl ?_ | refine go_dundef rfl rfl ?_ | refine go_dend (by kernel_rfl) ?_ | refine go_pickT rfl ?_ | refine go_pickF rfl ?_ | refine go_pick rfl (fun h => ?_) (fun h => ?_) | refine go_idxOwn rfl rfl rfl rfl rfl rfl hqld ?_ | refine go_idxOwnI (j := i) rfl rfl e12 rfl rfl rfl rfl hild ?_ | refine go_loadEl (i := q) rfl rfl rfl hry ?_ | refine go_loadEl (i := i) rfl rfl rfl hrd ?_) <;> conv => whnf) | ((first | refine go_dsplit2 rfl (fun h => ?_) (fun h => ?_) | refine go_loadB ?_ | refine ⟨by kernel_rfl, ?_⟩ | refine go_ret ?_) <;> conv => whnf) | refine go_block ?_ | ((first | refine go_skip ?_ | refine go_exit ?_) <;> conv => whnf) | refine go_true rfl ?_ | refine go_false rfl ?_ | refine go_cond rfl (fun h => ?_) (fun h => ?_) | refine ⟨rfl, ?_⟩ | ((first | refine ⟨trivial, ?_⟩ | refine ⟨le_of_ble rfl, ?_⟩) <;> conv => whnf) | fail
        all_goals first
          | (refine go_next (q + 1) ⟨by omega, by omega, fun j h1 h2 => ?_⟩ (by omega) (ref_st id rfl ⟨⟨rfl, rfl⟩, ⟨rfl, rfl⟩, ⟨rfl, rfl⟩, ⟨rfl, rfl⟩, ⟨rfl, rfl⟩, rfl, next_i (by omega), trivial⟩ ⟨rfl, rfl, ⟨rfl, wavs_imm _⟩, rfl, rfl, rfl, trivial⟩ (by simp) rfl (by simp [lookM]))
             by_cases e : j = q
             · subst e; rw [hyy, hdd]; exact hqy
             · exact hq3 j h1 (by omega)
             done)
          | (exfalso; have h' := of_decide_eq_false h; omega)
          | (exfalso; have h' := of_decide_eq_true h; omega)
          | (exfalso; rename_i hq; have h' := of_decide_eq_true hq; omega)
          | (exfalso; rename_i hq; have h' := of_decide_eq_false hq; omega)
          | (exfalso; rename_i hq _; have h' := of_decide_eq_true hq; omega)
          | (exfalso; rename_i hq _; have h' := of_decide_eq_false hq; omega)
          | (exfalso; have h' := of_decide_eq_false h; rw [hw7] at h'; omega)
          | trace_state
      case neg =>
        have hn : nextOf ds i = q := by
          refine next_stop hq1 hq2 hq3 ?_
          rw [hdd]
          by_cases e : q = ds.length
          · exact .inl e
          · exact .inr (by omega)
        have hng := next_gt hlt
        have hnl := next_le (ds := ds) (i := i) (by omega)
        rw [hn] at hng hnl
        have hstep := fAt_step (W := p.week) (cs := cs) hlt
        obtain ⟨c, hc⟩ : ∃ c, cs[i]? = some c := ⟨_, List.getElem?_eq_getElem (by omega)⟩
        have hcc : cs.getD i 0 = c := by simp [List.getD_eq_getElem?_getD, hc]
        have hcb := hT.cost i
        rw [hcc] at hcb
        rw [hn, hdd, hcc] at hstep
        have hs1 := fAt_small hT (i := i + 1) hlt
        have hs2 := fAt_small hT hnl
        have hw0 := hT.w0
        have hw1 := hT.w1
        have hlq := (good_at hT hnl).len
        have hl1 := (good_at hT (i := i + 1) hlt).len
        have hrc : (cs.map intRow)[i]? = some (intRow c) := by rw [List.getElem?_map, hc]; rfl
        have hr0 : ((half 0 (sumsL p.week ds cs) (i + 1)).map intRow)[i]? = some (intRow 0) := by rw [List.getElem?_map, half_lt (by omega)]; rfl
        have hr1 : ((half 0 (sumsL p.week ds cs) (i + 1)).map intRow)[i + 1]? = some (intRow (fAt p.week ds cs (i + 1)).1) := by rw [List.getElem?_map, half_ge (Nat.le_refl _), sumsL_at hlt]; rfl
        have hrn : ((half 0 (sumsL p.week ds cs) (i + 1)).map intRow)[q]? = some (intRow (fAt p.week ds cs q).1) := by rw [List.getElem?_map, half_ge hng, sumsL_at hnl]; rfl
        have hfs : ∀ x : Int, (fAt p.week ds cs i).1 = x → ((half 0 (sumsL p.week ds cs) (i + 1)).map intRow).set i [.int .i64 x] = (half 0 (sumsL p.week ds cs) i).map intRow := fun x e => by
          rw [← half_set (sumsL_at (W := p.week) (cs := cs) (show i ≤ ds.length by omega)), List.map_set, e]; rfl
        obtain ⟨⟨v0, r0⟩, hx0, _⟩ : ∃ x, cells[i]? = some x ∧ True := ⟨_, List.getElem?_eq_getElem (by omega), trivial⟩
        obtain ⟨⟨v1, r1⟩, hx1, hm1, hv1⟩ := hI.at (j := i + 1) (Nat.le_refl _) hlt
        obtain ⟨⟨vn, rn⟩, hxn, hmn, hvn⟩ := hI.at (j := q) hng hnl
        simp only at hv1 hvn
        subst hv1 hvn
        obtain ⟨o1, n1, p1, ev1⟩ := hI.shp _ hm1
        obtain ⟨on, nn, pn, evn⟩ := hI.shp _ hmn
        simp only at ev1 evn
        subst ev1 evn
        have hwa : IntKind.i64.wrap (c + (fAt p.week ds cs (i + 1)).1) = c + (fAt p.week ds cs (i + 1)).1 := wrap_small (by omega) (by omega)
        have hwb : IntKind.i64.wrap (p.week + (fAt p.week ds cs q).1) = p.week + (fAt p.week ds cs q).1 := wrap_small (by omega) (by omega)
        generalize hA : fAt p.week ds cs (i + 1) = A at *
        generalize hB : fAt p.week ds cs q = B at *
        obtain ⟨a1, l1⟩ := A
        obtain ⟨b1', lq⟩ := B
        simp only at *
        have hrs : ∀ x : List D, (((half 0 (sumsL p.week ds cs) (i + 1)).map intRow).set i x)[q]? = some (intRow b1') := fun x => by rw [List.getElem?_set_ne (by omega)]; exact hrn
        have hri : ∀ x : List D, (((half 0 (sumsL p.week ds cs) (i + 1)).map intRow).set i x)[i]? = some x := fun x => by
          have := (List.getElem?_eq_some_iff.1 hr0).1
          rw [List.getElem?_set_self (by exact this)]
        have ho0 : (outC cells)[i]? = some [.other v0] := by unfold outC; rw [List.getElem?_map, hx0]; rfl
        have ho1 : (outC cells)[i + 1]? = some [.other (.slice o1 n1 p1)] := by unfold outC; rw [List.getElem?_map, hx1]; rfl
        have hon : ∀ x : List D, ((outC cells).set i x)[q]? = some [.other (.slice on nn pn)] := fun x => by rw [List.getElem?_set_ne (by omega)]; unfold outC; rw [List.getElem?_map, hxn]; rfl
        have hoi : ∀ x : List D, ((outC cells).set i x)[i]? = some x := fun x => by
          have := (List.getElem?_eq_some_iff.1 ho0).1
          rw [List.getElem?_set_self (by exact this)]
        have hos : ∀ x : Cell, (outC cells).set i [.other x.1] = outC (cells.set i x) := fun x => by unfold outC; rw [List.map_set]
        have hil : i < ds.length + 1 := by omega
        have hil1 : i + 1 < ds.length + 1 := by omega
        have hnl1 : q < ds.length + 1 := by omega
        have hone : (rowsI lq).all (fun r => r.all D.one) = true := int_one lq
        have hrl : (rowsI lq).length = lq.length := List.length_map _
        have hby : (1 + (rowsI lq).length) * 8 ≤ 140737488355328 := by omega
        have hmax : 1 + (rowsI lq).length ≤ 4611686018427387904 := by omega
        have hcmp := c30 (IntKind.i64.wrap (p.week + b1')) (IntKind.i64.wrap (c + a1))
        have hor := c29 [cmpI (IntKind.i64.wrap (p.week + b1')) (IntKind.i64.wrap (c + a1)), cmpL (d :: lq) l1] (by simp)
        have hview : (([intRow d].drop 0 ++ rowsI lq).drop 0).take (1 + (rowsI lq).length) = (d :: lq).map intRow := by
          rw [List.drop_zero, List.drop_zero, List.take_of_length_le (by simp; omega)]; rfl
        have hlc : CallOk Try.prog 31 ([D.list ((([intRow d].drop 0 ++ rowsI lq).drop 0).take (1 + (rowsI lq).length)), D.list (rowsI l1)].map .imm) { res := [.imm (.int .i64 (cmpL (d :: lq) l1))] } := by
          rw [hview]
          exact c31 (d :: lq) l1 (by simp; omega) (by omega)
        have hgl : 1 + (rowsI lq).length = ((d :: lq).map intRow).length := by rw [hrl, List.length_map, List.length_cons]; omega
        have hcase : (q < ds.length ∧ ∃ y, ds[q]? = some y ∧ ¬ y < d + 7) ∨ q = ds.length := by
          by_cases e : q = ds.length
          · exact .inr e
          · refine .inl ⟨by omega, ds[q]'(by omega), List.getElem?_eq_getElem (by omega), fun h => hgo ⟨by omega, ?_⟩⟩
            have : ds.getD q 0 = ds[q]'(by omega) := by simp [List.getD_eq_getElem?_getD, show q < ds.length by omega]
            rw [this]
            exact h
        rcases hcase with ⟨hql, y, hy, hyn⟩ | hqe
        case' inl =>
          have hry : (ds.map intRow)[q]? = some (intRow y) := by rw [List.getElem?_map, hy]; rfl
          have hqld : q < (ds.map intRow).length := by omega
        all_goals
          repeat' first | (refine go_drawT 13 9 drawsOk ?_; conv => whnf) | (refine go_drawT 14 11 drawsOk ?_; conv => whnf) | (refine go_ext (ext_appX (rows' := rowsI lq) (v := .slice on nn pn) tyOk rfl rfl rfl rfl rfl rfl rfl (read_inn (id := 1006) (x := (Value.slice on nn pn, rowsI lq)) rfl hmn) hone hby hmax rfl rfl ?_); conv => whnf) | (refine go_ext (ext_xlook (ds := [D.list ((([intRow d].drop 0 ++ rowsI lq).drop 0).take (1 + (rowsI lq).length)), D.list (rowsI l1)]) hlc rfl [nid 5 100, 1006] (look2 (look_own (id := nid 5 100) rfl (by simp)) (look_inn (id := 1006) (x := (Value.slice o1 n1 p1, rowsI l1)) rfl (by simp) hm1)) rfl ?_); conv => whnf) | (refine go_exact tyOk (s := 14) (id := nid 5 100) (id' := 4000) (ty := 3) (sz := 1) (rows := (d :: lq).map intRow) rfl rfl hgl (List.all_eq_true.2 (int_gr (d :: lq))) rfl ?_; intro oad cap; conv => whnf) | refine go_seq ?_ | refine go_region ?_ | refine go_miss rfl rfl rfl ?_ | refine go_undef rfl rfl rfl ?_ | refine go_draw drawsOk ?_ | ((first | refine go_op rfl ?_ | refine go_nil ?_ | refine go_hit rfl rfl rfl ?_ | refine go_splitT rfl rfl rfl (fun h => ?_) (fun h => ?_) | refine go_splitF rfl rfl rfl (fun h => ?_) (fun h => ?_) | refine go_storeBox rfl rfl rfl rfl rfl rfl ?_ | refine go_dop rfl ?_ | refine go_dhit rfl rfl ?_ | refine go_dmiss rfl rfl ?_ | refine go_dundef rfl rfl ?_ | refine go_dend (by kernel_rfl) ?_ | refine go_pickT rfl ?_ | refine go_pickF rfl ?_ | refine go_pick rfl (fun h => ?_) (fun h => ?_) | refine Two.mk ?_ trivial | refine Two.mk ?_ ?_ | refine go_call [] (hcmp) rfl rfl rfl rfl ?_ | refine go_call [] (hor) rfl rfl rfl rfl ?_ | refine go_idxOwn rfl rfl rfl rfl rfl rfl hqld ?_ | refine go_idxOwn rfl rfl rfl rfl rfl rfl hnl1 ?_ | refine go_idxOwnI (j := i) rfl rfl e12 rfl rfl rfl rfl hild ?_ | refine go_idxOwnI (j := i) rfl rfl e12 rfl rfl rfl rfl hilc ?_ | refine go_idxOwnI (j := i) rfl rfl e12 rfl rfl rfl rfl hil ?_ | refine go_idxOwnI (j := i + 1) rfl rfl e13 rfl rfl rfl rfl hil1 ?_ | refine go_loadEl (i := q) rfl rfl rfl hry ?_ | refine go_loadEl (i := i) rfl rfl rfl hrd ?_ | refine go_loadEl (i := i) rfl rfl rfl hrc ?_ | refine go_loadEl (i := i + 1) rfl rfl rfl hr1 ?_ | refine go_loadEl (i := i + 1) rfl rfl rfl ho1 ?_ | refine go_loadEl (i := q) rfl rfl rfl (hrs _) ?_ | refine go_loadEl (i := q) rfl rfl rfl (hon _) ?_ | refine go_loadEl (i := i) rfl rfl rfl (hri _) ?_ | refine go_loadEl (i := i) rfl rfl rfl (hoi _) ?_ | refine go_storeRow rfl rfl rfl rfl hr0 rfl rfl rfl ?_ | refine go_storeRow rfl rfl rfl rfl ho0 rfl rfl rfl ?_ | refine go_storeRow rfl rfl rfl rfl (hri _) rfl rfl rfl ?_ | refine go_storeRow rfl rfl rfl rfl (hoi _) rfl rfl rfl ?_) <;> conv => whnf) | ((first | refine go_dsplit2 rfl (fun h => ?_) (fun h => ?_) | refine go_loadB ?_ | refine ⟨by kernel_rfl, ?_⟩ | refine go_ret ?_) <;> conv => whnf) | refine go_block ?_ | ((first | refine go_skip ?_ | refine go_exit ?_) <;> conv => whnf) | refine go_true rfl ?_ | refine go_false rfl ?_ | refine go_cond rfl (fun h => ?_) (fun h => ?_) | refine ⟨rfl, ?_⟩ | ((first | refine ⟨trivial, ?_⟩ | refine ⟨le_of_ble rfl, ?_⟩) <;> conv => whnf) | fail
        all_goals try first
          | (exfalso; have h' := of_decide_eq_false h; omega)
          | (exfalso; have h' := of_decide_eq_true h; omega)
          | (exfalso; rename_i hq; have h' := of_decide_eq_true hq; omega)
          | (exfalso; rename_i hq; have h' := of_decide_eq_false hq; omega)
          | (exfalso; rename_i hq _; have h' := of_decide_eq_true hq; omega)
          | (exfalso; rename_i hq _; have h' := of_decide_eq_false hq; omega)
          | (exfalso; have h' := of_decide_eq_true h; rw [hw7] at h'; omega)
        all_goals first
          | (have hb : less2 (p.week + b1') (c + a1) (d :: lq) l1 = true := by
               rw [hwa, hwb] at h
               exact h
             rw [hb, if_pos rfl] at hstep
             refine go_next (i, xs ++ [(Value.slice oad ((d :: lq).map intRow).length cap, (d :: lq).map intRow)], cells.set i (Value.slice oad ((d :: lq).map intRow).length cap, (d :: lq).map intRow))
               (hI.step (x := (Value.slice oad ((d :: lq).map intRow).length cap, (d :: lq).map intRow)) (by simp) (fun c hc => List.mem_append_left _ hc) (fun c hc => ?_) (by rw [hstep]; rfl)) (by show i < i + 1; omega)
               (Ref.trans (ref_joinX (id1 := 1006) (id2 := 4000) (id3 := 4001) rfl rfl rfl rfl joinC) (ref_st (fun y => if y = 1006 then 4001 else y) rfl ⟨⟨rfl, rfl⟩, ⟨rfl, rfl⟩, ⟨rfl, rfl⟩, ⟨rfl, rfl⟩, ⟨rfl, rfl⟩, ?_, trivial⟩ ⟨rfl, rfl, ⟨rfl, wavs_imm _⟩, ?_, ?_, rfl, trivial⟩ (by simp) rfl (by simp [lookM])))
             · rcases List.mem_append.1 hc with hc | hc
               · exact hI.shp c hc
               · rw [List.mem_singleton] at hc
                 subst hc
                 exact ⟨_, _, _, rfl⟩
             · show AV.imm _ = AV.imm _
               rw [e14]
             · show some _ = some _
               rw [List.set_set, hwb, hfs _ (by rw [hstep])]
             · show some _ = some _
               rw [List.set_set, ← hos]
             done)
          | (have hb : less2 (p.week + b1') (c + a1) (d :: lq) l1 = false := by
               rw [hwa, hwb] at h
               exact h
             rw [hb, if_neg (by simp)] at hstep
             refine go_next (i, xs, cells.set i (Value.slice o1 n1 p1, rowsI l1)) (hI.step (x := (Value.slice o1 n1 p1, rowsI l1)) hm1 (fun c hc => hc) hI.shp (by rw [hstep])) (by show i < i + 1; omega)
               (ref_st id rfl ⟨⟨rfl, rfl⟩, ⟨rfl, rfl⟩, ⟨rfl, rfl⟩, ⟨rfl, rfl⟩, ⟨rfl, rfl⟩, ?_, trivial⟩ ⟨rfl, rfl, ⟨rfl, wavs_imm _⟩, ?_, ?_, rfl, trivial⟩ (by simp) rfl (by simp [lookM]))
             · show AV.imm _ = AV.imm _
               rw [e14]
             · show some _ = some _
               rw [hwa, hfs _ (by rw [hstep])]
             · show some _ = some _
               rw [← hos]
             done)
          | trace_state
end Go.Proofs.Ytbegjabnkgennaa

