/- The walk of the depot that is drawn. -/
import Derived.Test.YtkjigbbbobijnaaF0
import Derived.Test.YtkjigbbbobijnaaE9
namespace Go.Proofs.Ytkjigbbbobijnaa
open Go Go.Am
set_option maxRecDepth 100000
set_option maxHeartbeats 16000000
attribute [local irreducible] amOps amC opCall opIndexAddr opPick retQ opMake opStore amDraw opAppend opLoad opNilCmp opIndex opSlice xQ

theorem TOk.add {ts : List (List Int)} {cs : List Cell} {t : List Int} {v : Value} (h : TOk ts cs) : TOk (ts ++ [t]) (cs ++ [(v, t.map intRow)]) := by
  unfold TOk at *
  rw [List.map_append, List.map_append, h]
  rfl
theorem down_i {n i : Nat} (h : i < n) (hn : n ≤ 1000000) : AV.imm (.int .i64 (IntKind.i64.wrap (((n - i : Nat) : Int) - 1))) = .imm (.int .i64 ((n - (i + 1) : Nat) : Int)) := by
  rw [wrap_small (by omega) (by omega), show ((n - i : Nat) : Int) - 1 = ((n - (i + 1) : Nat) : Int) from by omega]
theorem dep_join' {d : Depot} {rs : List (List D)} {vs vt : Value} (hr : rs = d.sizes.map intRow) : ∀ w F1 F2, ExtAt (FlatI 3 1 rs vs) w F1 → ExtAt (LstI d.tracks vt) w F2 → (∀ b, ¬ (F1 b ∧ F2 b)) → ExtAt (DepV d (.agg #[vs, vt])) w fun b => F1 b ∨ F2 b := by
  subst hr
  exact dep_join
def SOk (cs : List Cell) : Prop := ∀ x ∈ cs, ∃ a c, x.1 = .slice a x.2.length c
theorem SOk.add {cs : List Cell} {a : Option Addr} {r : List (List D)} {c : Nat} (h : SOk cs) : SOk (cs ++ [(.slice a r.length c, r)]) := by
  intro x hx
  rcases List.mem_append.1 hx with hx | hx
  · exact h x hx
  · rw [List.mem_singleton] at hx
    subst hx
    exact ⟨a, c, rfl⟩
def depOut (xs : List Int) (x : Depot × Cu) : Out := { res := [.imm (.agg x.1.enc)], muts := [.box 45 ((cu xs x.2).map .imm)], sep := false }

theorem depot_walk (xs : List Int) (hx : areB xs) (c : Cu) (hk : c.k ≤ 90) : CallOk Try.prog 17 [.box 45 (cu xs c)] (depOut xs (depF xs c)) := by
  refine callOk_of tyOk Try.func17 rfl rfl (le_of_ble rfl) (le_of_ble rfl) (mutOk_box0 (res := [.imm (.agg (depF xs c).1.enc)]) (sep := false) rfl) ?_
  obtain ⟨hP, hN, hNi, hg0⟩ := dN_ok hx hk
  obtain ⟨_, _, hp0⟩ := hP
  have hNw : IntKind.i64.wrap (1 + (pk xs c 3).1) = ((dN xs c : Nat) : Int) := by rw [hNi]; exact wrap_small (by omega) (by omega)
  unfold depF
  have hall := dAt_go hx hg0
  generalize dN xs c = N at *
  have hd0 : d0 xs c = ⟨[], [], 1, (pk xs c 3).2⟩ := rfl
  generalize d0 xs c = a0 at *
  repeat' first | refine go_seq ?_ | refine go_region ?_ | refine go_draw drawsOk ?_ | ((first | refine go_op rfl ?_ | refine go_nil ?_ | refine go_storeBox rfl rfl rfl rfl rfl rfl ?_ | refine go_dop rfl ?_ | refine go_dend (by kernel_rfl) ?_ | refine go_call [2] (hp0) rfl rfl rfl rfl ?_ | refine Or.inr ?_) <;> conv => whnf) | ((first | refine Or.inl ?_ | refine go_loadB ?_ | refine ⟨by kernel_rfl, ?_⟩ | refine go_ret ?_) <;> conv => whnf) | refine go_block ?_ | ((first | refine go_skip ?_ | refine go_exit ?_) <;> conv => whnf) | refine go_true rfl ?_ | refine go_false rfl ?_ | refine go_cond rfl (fun h => ?_) (fun h => ?_) | refine ⟨rfl, ?_⟩ | ((first | refine ⟨trivial, ?_⟩ | refine ⟨le_of_ble rfl, ?_⟩) <;> conv => whnf) | fail
  refine go_loop (α := Nat × List Cell) (fun q => q.1 ≤ N ∧ q.2.length = q.1 ∧ TOk (dAt xs a0 q.1).tr q.2 ∧ SOk q.2) (fun q => N - q.1)
    (fun q => st Try.f17.ntmps [(0, .box 1001 0), (2, .box 1002 0), (3, .box 1003 0), (4, .imm (.int .i64 (dAt xs a0 q.1).v)), (5, .imm (.int .i64 ((N - q.1 : Nat) : Int)))]
      [(1001, .box 45 ((cu xs (dAt xs a0 q.1).c).map .imm)), (1002, .box 27 ([.list [], .list []].map .imm)), (1003, .box 27 [.own 1004 0 ((dAt xs a0 q.1).sz.map intRow).length, .own 1005 0 (outS q.2).length]), (1004, .arr 3 1 ((dAt xs a0 q.1).sz.map intRow)), (1005, .arr 24 1 (outS q.2)), (9024, .ext (InnI 3 1 q.2))] [1001]) (0, []) ⟨Nat.zero_le _, rfl, ?_, fun x h => by cases h⟩ ?_ ?_
  · rw [hd0]; rfl
  · refine Ref.trans (ref_newX (id := 3000) (I := InnI 3 1 []) rfl (fun w => (InnI.nil _ _ w _).ext)) (Ref.trans (ref_nilBox (b := nid 2 3) (q := 5000) (j := 0) (e := 3) (sz := 1) rfl rfl rfl (by decide)) (Ref.trans (ref_nilBox (b := nid 2 3) (q := 5001) (j := 1) (e := 24) (sz := 1) rfl rfl rfl (by decide)) ?_))
    subst hd0
    have hNe : AV.imm (.int .i64 (IntKind.i64.wrap (1 + (pk xs c 3).1))) = .imm (.int .i64 ((N - 0 : Nat) : Int)) := by rw [hNw, Nat.sub_zero]
    exact ref_st (fun y => if y = 1001 then 0 else if y = 1002 then nid 1 2 else if y = 1003 then nid 2 3 else if y = 1004 then 5000 else if y = 1005 then 5001 else if y = 9024 then 3000 else 0) rfl ⟨⟨rfl, rfl⟩, ⟨rfl, rfl⟩, ⟨rfl, rfl⟩, rfl, hNe, trivial⟩ ⟨⟨rfl, wavs_imm _⟩, ⟨rfl, wavs_imm _⟩, ⟨rfl, ⟨rfl, rfl⟩, ⟨rfl, rfl⟩, trivial⟩, rfl, rfl, rfl, trivial⟩ (by simp [nid]) rfl (by simp [lookM])
  rintro ⟨i, cs⟩ ⟨hi, hcl, hc, hso⟩
  simp only at hi hcl hc hso
  have hga := hall i (by omega)
  obtain ⟨hA, hz, hK, hk4, _⟩ := dOne hx (by omega) hga
  have hig := dI_go hx (by omega) hga
  obtain ⟨_, _, hA⟩ := hA
  obtain ⟨_, _, hK⟩ := hK
  clear hp0
  have hnxt : dAt xs a0 (i + 1) = dStep xs (dAt xs a0 i) := rfl
  have hI0 : dI0 xs (dAt xs a0 i) = ⟨[], (dAt xs a0 i).v, (dK xs (dAt xs a0 i)).2⟩ := rfl
  by_cases hlt : i < N
  · have hpos : (0 : Int) < ((N - i : Nat) : Int) := by omega
    repeat' first | refine go_seq ?_ | refine go_region ?_ | refine go_draw drawsOk ?_ | ((first | refine go_op rfl ?_ | refine go_nil ?_ | refine go_storeBox rfl rfl rfl rfl rfl rfl ?_ | refine go_dop rfl ?_ | refine go_dend (by kernel_rfl) ?_ | refine go_call [2, 1] (hA) rfl rfl rfl rfl ?_ | refine go_call [2] (hK) rfl rfl rfl rfl ?_) <;> conv => whnf) | ((first | refine Or.inl ?_ | refine go_loadB ?_ | refine ⟨by kernel_rfl, ?_⟩ | refine go_ret ?_) <;> conv => whnf) | refine go_block ?_ | ((first | refine go_skip ?_ | refine go_exit ?_) <;> conv => whnf) | refine go_true rfl ?_ | refine go_false rfl ?_ | refine go_cond rfl (fun h => ?_) (fun h => ?_) | refine ⟨rfl, ?_⟩ | ((first | refine ⟨trivial, ?_⟩ | refine ⟨le_of_ble rfl, ?_⟩) <;> conv => whnf) | fail
    all_goals first
      | (exfalso; simp at h; omega)
      | skip
    refine go_loop (α := Nat) (fun j => j ≤ (dK xs (dAt xs a0 i)).1.toNat) (fun j => (dK xs (dAt xs a0 i)).1.toNat - j)
      (fun j => st Try.f17.ntmps [(0, .box 1001 0), (2, .box 1002 0), (3, .box 1003 0), (4, .imm (.int .i64 (iAt xs (dI0 xs (dAt xs a0 i)) j).v)), (5, .imm (.int .i64 ((N - i : Nat) : Int))), (6, .imm (.int .i64 (dSz xs (dAt xs a0 i)).1)), (7, .own 1007 0 ((iAt xs (dI0 xs (dAt xs a0 i)) j).l.map intRow).length), (8, .imm (.int .i64 (((dK xs (dAt xs a0 i)).1.toNat - j : Nat) : Int)))]
        [(1001, .box 45 ((cu xs (iAt xs (dI0 xs (dAt xs a0 i)) j).c).map .imm)), (1002, .box 27 ([.list [], .list []].map .imm)), (1003, .box 27 [.own 1004 0 ((dAt xs a0 i).sz.map intRow).length, .own 1005 0 (outS cs).length]), (1004, .arr 3 1 ((dAt xs a0 i).sz.map intRow)), (1005, .arr 24 1 (outS cs)), (9024, .ext (InnI 3 1 cs)), (1007, .arr 3 1 ((iAt xs (dI0 xs (dAt xs a0 i)) j).l.map intRow))] [1001]) 0 (Nat.zero_le _) ?_ ?_
    · have hKe : AV.imm (.int .i64 (dK xs (dAt xs a0 i)).1) = .imm (.int .i64 (((dK xs (dAt xs a0 i)).1.toNat - 0 : Nat) : Int)) := by rw [Nat.sub_zero, Int.toNat_of_nonneg hk4.1]
      exact ref_st (fun y => if y = 1007 then nid 4 20 else y) rfl ⟨⟨rfl, rfl⟩, ⟨rfl, rfl⟩, ⟨rfl, rfl⟩, rfl, rfl, rfl, ⟨rfl, rfl⟩, hKe, trivial⟩ ⟨⟨rfl, wavs_imm _⟩, ⟨rfl, wavs_imm _⟩, ⟨rfl, ⟨rfl, rfl⟩, ⟨rfl, rfl⟩, trivial⟩, rfl, rfl, rfl, rfl, trivial⟩ (by simp [nid]) rfl (by simp [lookM])
    rintro j hj
    have hgj := hig j (by omega)
    have hnj : iAt xs (dI0 xs (dAt xs a0 i)) (j + 1) = iStep xs (iAt xs (dI0 xs (dAt xs a0 i)) j) := rfl
    clear hA hK h
    by_cases hjl : j < (dK xs (dAt xs a0 i)).1.toNat
    · obtain ⟨g1, g2, g3⟩ := hgj
      obtain ⟨_, _, hp⟩ := pk_ok hx (c := (iAt xs (dI0 xs (dAt xs a0 i)) j).c) (by have := hga.2.2; omega) 2
      have he : List.map intRow (iAt xs (dI0 xs (dAt xs a0 i)) (j + 1)).l = List.map intRow (iAt xs (dI0 xs (dAt xs a0 i)) j).l ++ [intRow (iAt xs (dI0 xs (dAt xs a0 i)) j).v] := by rw [hnj, iStep, List.map_append]; rfl
      have hb1 : ((iAt xs (dI0 xs (dAt xs a0 i)) j).l.map intRow).length + 1 ≤ 1073741824 := by rw [List.length_map]; omega
      repeat' first | refine go_seq ?_ | refine go_region ?_ | refine go_draw drawsOk ?_ | ((first | refine go_op rfl ?_ | refine go_nil ?_ | refine go_storeBox rfl rfl rfl rfl rfl rfl ?_ | refine go_dop rfl ?_ | refine go_dend (by kernel_rfl) ?_ | refine go_call [2] (hp) rfl rfl rfl rfl ?_ | refine go_append (rows2 := [intRow (iAt xs (dI0 xs (dAt xs a0 i)) j).v]) rfl rfl rfl rfl rfl rfl rfl rfl rfl rfl rfl rfl rfl rfl rfl rfl hb1 ?_) <;> conv => whnf) | ((first | refine Or.inl ?_ | refine go_loadB ?_ | refine ⟨by kernel_rfl, ?_⟩ | refine go_ret ?_) <;> conv => whnf) | refine go_block ?_ | ((first | refine go_skip ?_ | refine go_exit ?_) <;> conv => whnf) | refine go_true rfl ?_ | refine go_false rfl ?_ | refine go_cond rfl (fun h => ?_) (fun h => ?_) | refine ⟨rfl, ?_⟩ | ((first | refine ⟨trivial, ?_⟩ | refine ⟨le_of_ble rfl, ?_⟩) <;> conv => whnf) | fail
      all_goals first
        | (exfalso; simp at h; done)
        | (exfalso; simp at h; omega)
        | skip
      refine go_next (j + 1) hjl (by omega) (ref_st (fun y => if y = 1007 then nid 3 32 else y) rfl ⟨⟨rfl, rfl⟩, ⟨rfl, rfl⟩, ⟨rfl, rfl⟩, rfl, rfl, rfl, ⟨?_, rfl⟩, down_i hjl (by omega), trivial⟩ ⟨⟨rfl, wavs_imm _⟩, ⟨rfl, wavs_imm _⟩, ⟨rfl, ⟨rfl, rfl⟩, ⟨rfl, rfl⟩, trivial⟩, rfl, rfl, rfl, ?_, trivial⟩ (by simp [nid]) rfl (by simp [lookM]))
      · show AV.own _ _ _ = AV.own _ _ (List.map intRow (iAt xs (dI0 xs (dAt xs a0 i)) (j + 1)).l).length
        rw [he, List.length_append]; rfl
      · show some _ = some (O.arr _ _ (List.map intRow (iAt xs (dI0 xs (dAt xs a0 i)) (j + 1)).l))
        rw [he]; rfl
    · have hje : j = (dK xs (dAt xs a0 i)).1.toNat := by omega
      subst hje
      have hs2 : List.map intRow (dAt xs a0 (i + 1)).sz = List.map intRow (dAt xs a0 i).sz ++ [intRow (dSz xs (dAt xs a0 i)).1] := by rw [hnxt, dStep, List.map_append]; rfl
      have hb2 : ((dAt xs a0 i).sz.map intRow).length + 1 ≤ 1073741824 := by rw [List.length_map]; have := hga.1.1; omega
      have hb3 : (outS cs).length + 1 ≤ 1073741824 := by rw [outS_len]; omega
      repeat' first | (refine go_exact tyOk (s := 46) (id := 1007) (id' := 6000) (ty := 3) (sz := 1) (rows := (dI xs (dAt xs a0 i)).l.map intRow) rfl rfl rfl (List.all_eq_true.2 (int_gr _)) rfl ?_; intro o1 c1; conv => whnf) | refine go_seq ?_ | refine go_region ?_ | refine go_draw drawsOk ?_ | ((first | refine go_op rfl ?_ | refine go_nil ?_ | refine go_storeBox rfl rfl rfl rfl rfl rfl ?_ | refine go_dop rfl ?_ | refine go_dend (by kernel_rfl) ?_ | refine go_append (rows2 := [intRow (dSz xs (dAt xs a0 i)).1]) rfl rfl rfl rfl rfl rfl rfl rfl rfl rfl rfl rfl rfl rfl rfl rfl hb2 ?_ | refine go_append (rows2 := [[.other (.slice o1 ((dI xs (dAt xs a0 i)).l.map intRow).length c1)]]) rfl rfl rfl rfl rfl rfl rfl rfl rfl rfl rfl rfl rfl rfl rfl rfl hb3 ?_) <;> conv => whnf) | ((first | refine Or.inl ?_ | refine go_loadB ?_ | refine ⟨by kernel_rfl, ?_⟩ | refine go_ret ?_) <;> conv => whnf) | refine go_block ?_ | ((first | refine go_skip ?_ | refine go_exit ?_) <;> conv => whnf) | refine go_true rfl ?_ | refine go_false rfl ?_ | refine go_cond rfl (fun h => ?_) (fun h => ?_) | refine ⟨rfl, ?_⟩ | ((first | refine ⟨trivial, ?_⟩ | refine ⟨le_of_ble rfl, ?_⟩) <;> conv => whnf) | fail
      all_goals first
        | (exfalso; simp at h; done)
        | (exfalso; simp at h; omega)
        | skip
      refine go_next (i + 1, cs ++ [(Value.slice o1 ((dI xs (dAt xs a0 i)).l.map intRow).length c1, (dI xs (dAt xs a0 i)).l.map intRow)]) ⟨hlt, by simp [hcl], TOk.add hc, SOk.add hso⟩ (by show N - (i + 1) < N - i; omega)
        (Ref.trans (ref_joinX (id1 := 9024) (id2 := 6000) (id3 := 7000) rfl rfl rfl rfl join_add) (ref_st (fun y => if y = 1004 then nid 3 42 else if y = 1005 then nid 4 48 else if y = 9024 then 7000 else y) rfl ⟨⟨rfl, rfl⟩, ⟨rfl, rfl⟩, ⟨rfl, rfl⟩, rfl, down_i hlt (by omega), trivial⟩ ⟨⟨rfl, wavs_imm _⟩, ⟨rfl, wavs_imm _⟩, ⟨rfl, ⟨?_, rfl⟩, ⟨?_, rfl⟩, trivial⟩, ?_, ?_, rfl, trivial⟩ (by simp [nid]) rfl (by simp [lookM])))
      · show AV.own _ _ _ = AV.own _ _ (List.map intRow (dAt xs a0 (i + 1)).sz).length
        rw [hs2, List.length_append]; rfl
      · show AV.own _ _ _ = AV.own _ _ (outS (cs ++ [(Value.slice o1 ((dI xs (dAt xs a0 i)).l.map intRow).length c1, (dI xs (dAt xs a0 i)).l.map intRow)])).length
        rw [outS_app, List.length_append]; rfl
      · show some _ = some (O.arr _ _ (List.map intRow (dAt xs a0 (i + 1)).sz))
        rw [hs2]; rfl
      · show some _ = some (O.arr _ _ (outS (cs ++ [(Value.slice o1 ((dI xs (dAt xs a0 i)).l.map intRow).length c1, (dI xs (dAt xs a0 i)).l.map intRow)])))
        rw [outS_app]; rfl
  · have hie : i = N := by omega
    subst hie
    obtain ⟨⟨g1, g2, g3⟩, _, g5⟩ := hga
    generalize dAt xs a0 i = a at *
    obtain ⟨_, _, hp⟩ := pk_ok hx (c := a.c) (by omega) 40
    obtain ⟨_, _, hd0⟩ := am_ok hx (c := (pk xs a.c 40).2) (l := kN) (by omega) (by decide) (by decide)
    obtain ⟨_, _, hd1⟩ := am_ok hx (c := (pk xs a.c 40).2) (l := kV) (by omega) (by decide) (by decide)
    unfold dFin
    have hbs : (a.sz.map intRow).length + 1 ≤ 1073741824 := by rw [List.length_map]; omega
    by_cases c0 : (pk xs a.c 40).1 = 0
    · rw [if_pos c0]
      have hgs : (a.sz.map intRow ++ [intRow (am xs (pk xs a.c 40).2 kN).1]).all (fun r => r.all D.gr) = true := by rw [List.all_append, List.all_eq_true.2 (int_gr _)]; rfl
      have hse : a.sz.map intRow ++ [intRow (am xs (pk xs a.c 40).2 kN).1] = (a.sz ++ [(am xs (pk xs a.c 40).2 kN).1]).map intRow := by rw [List.map_append]; rfl
      have hls : (a.sz.map intRow).length + 1 = (a.sz.map intRow ++ [intRow (am xs (pk xs a.c 40).2 kN).1]).length := by rw [List.length_append]; rfl
      have hgt := outS_gr cs
      repeat' first | (refine ret_boxCell (bid := 1002) (j := 0) (id := nid 5 60) (id' := 8000) (ty := 3) (sz := 1) (rows := a.sz.map intRow ++ [intRow (am xs (pk xs a.c 40).2 kN).1]) rfl rfl rfl hls hgs rfl ?_; intro o1 c1; conv => whnf) | (refine ret_boxCell (bid := 1002) (j := 1) (id := 1005) (id' := 8001) (ty := 24) (sz := 1) (rows := outS cs) rfl rfl rfl rfl hgt rfl ?_; intro o2 c2; conv => whnf) | (refine ret_join (id1 := 8001) (id2 := 9024) (id3 := 8002) (I3 := LstI (⟨a.sz ++ [(am xs (pk xs a.c 40).2 kN).1], a.tr⟩ : Depot).tracks (.slice o2 (outS cs).length c2)) rfl rfl rfl rfl (lst_join hc) ?_; conv => whnf) | (refine ret_join (id1 := 8000) (id2 := 8002) (id3 := 8003) (I3 := DepV (⟨a.sz ++ [(am xs (pk xs a.c 40).2 kN).1], a.tr⟩ : Depot) (.agg #[.slice o1 (a.sz.map intRow ++ [intRow (am xs (pk xs a.c 40).2 kN).1]).length c1, .slice o2 (outS cs).length c2])) rfl rfl rfl rfl (dep_join' hse) ?_; conv => whnf) | (refine ret_plainBox (bid := 1002) (id := 8003) (ds := [.other (.slice o1 (a.sz.map intRow ++ [intRow (am xs (pk xs a.c 40).2 kN).1]).length c1), .other (.slice o2 (outS cs).length c2)]) (ds' := ((⟨a.sz ++ [(am xs (pk xs a.c 40).2 kN).1], a.tr⟩ : Depot)).enc) rfl rfl dep_plain ?_; conv => whnf) | refine go_seq ?_ | refine go_region ?_ | refine go_draw drawsOk ?_ | ((first | refine go_op rfl ?_ | refine go_nil ?_ | refine go_storeBox rfl rfl rfl rfl rfl rfl ?_ | refine go_dop rfl ?_ | refine go_dend (by kernel_rfl) ?_ | refine go_call [2] (hp) rfl rfl rfl rfl ?_ | refine go_call [2, 1] (hd0) rfl rfl rfl rfl ?_ | refine go_append (rows2 := [intRow (am xs (pk xs a.c 40).2 kN).1]) rfl rfl rfl rfl rfl rfl rfl rfl rfl rfl rfl rfl rfl rfl rfl rfl hbs ?_) <;> conv => whnf) | ((first | refine Or.inl ?_ | refine go_loadB ?_ | refine ⟨by kernel_rfl, ?_⟩ | refine go_ret ?_) <;> conv => whnf) | refine go_block ?_ | ((first | refine go_skip ?_ | refine go_exit ?_) <;> conv => whnf) | refine go_true rfl ?_ | refine go_false rfl ?_ | refine go_cond rfl (fun h => ?_) (fun h => ?_) | refine ⟨rfl, ?_⟩ | ((first | refine ⟨trivial, ?_⟩ | refine ⟨le_of_ble rfl, ?_⟩) <;> conv => whnf) | fail
      all_goals first
        | (exfalso; simp at h; done)
        | (exfalso; simp only [decide_eq_true_eq, decide_eq_false_iff_not] at *; omega)
        | (exfalso; simp at h; omega)
        | exact ret_box1 rfl rfl rfl rfl rfl rfl
        | trace_state
    have hgs : (a.sz.map intRow).all (fun r => r.all D.gr) = true := List.all_eq_true.2 (int_gr _)
    have hse : a.sz.map intRow = a.sz.map intRow := rfl
    have hls : (a.sz.map intRow).length = (a.sz.map intRow).length := rfl
    by_cases c1 : (pk xs a.c 40).1 = 1
    · rw [if_neg c0, if_pos c1]
      obtain ⟨t0, ht0⟩ : ∃ t, a.tr[0]? = some t := ⟨_, List.getElem?_eq_getElem (by omega)⟩
      have e0 : trk a.tr 0 = t0 := by simp [trk, List.getD, ht0]
      obtain ⟨⟨v0, r0⟩, hxi⟩ : ∃ x, cs[0]? = some x := ⟨_, List.getElem?_eq_getElem (by omega)⟩
      have hr0 : r0 = t0.map intRow := hc.at hxi ht0
      subst hr0
      obtain ⟨oa, oc, hv0⟩ := hso _ (List.mem_of_getElem? hxi)
      simp only at hv0
      subst hv0
      rw [e0]
      have ht4 := g3 t0 (List.mem_of_getElem? ht0)
      generalize hy : (am xs (pk xs a.c 40).2 kV).1 = y at *
      have hil : 0 < (outS cs).length := by rw [outS_len]; omega
      have hbd : (t0.map intRow).length + 1 ≤ 1073741824 := by rw [List.length_map]; omega
      have hone : ([y].map intRow).all (fun r => r.all D.one) = true := rfl
      have hgr2 : (t0.map intRow ++ [y].map intRow).all (fun r => r.all D.gr) = true := by rw [← List.map_append]; exact List.all_eq_true.2 (int_gr _)
      have happ : t0.map intRow ++ [y].map intRow = (t0 ++ [y]).map intRow := by rw [List.map_append]
      repeat' first | (refine go_drawT 19 11 drawsOk ?_; conv => whnf) | (refine go_dtake rfl (v := .slice oa (t0.map intRow).length oc) (id := 9024) (aty := 3) (sz := 1) (rows := t0.map intRow) (I := InnI 3 1 cs) (I' := InnO 3 1 cs 0) (take_at hxi) ?_; (conv => whnf); refine ⟨(by (conv => whnf); exact go_loadEl (i := 0) rfl rfl rfl (outS_at hxi) rfl), rfl, rfl, rfl, ?_⟩; conv => whnf) | (refine go_exact tyOk (s := 74) (id := nid 6 74) (id' := 6000) (ty := 3) (sz := 1) (rows := t0.map intRow ++ [y].map intRow) rfl rfl (by simp) hgr2 rfl ?_; intro o1 c1'; conv => whnf) | (refine ret_boxCell (bid := 1002) (j := 0) (id := 1004) (id' := 8000) (ty := 3) (sz := 1) (rows := a.sz.map intRow) rfl rfl rfl rfl hgs rfl ?_; intro o2 c2'; conv => whnf) | (refine ret_boxCell (bid := 1002) (j := 1) (id := 1005) (id' := 8001) (ty := 24) (sz := 1) (rows := outS (cs.set 0 (.slice o1 (t0.map intRow ++ [y].map intRow).length c1', t0.map intRow ++ [y].map intRow))) rfl rfl rfl (by simp [outS]) (outS_gr _) rfl ?_; intro o3 c3'; conv => whnf) | (refine ret_join (id1 := rid 6 69 1) (id2 := 6000) (id3 := 8002) (I3 := InnI 3 1 (cs.set 0 (.slice o1 (t0.map intRow ++ [y].map intRow).length c1', t0.map intRow ++ [y].map intRow))) rfl rfl rfl rfl put_at ?_; conv => whnf) | (refine ret_join (id1 := 8001) (id2 := 8002) (id3 := 8003) (I3 := LstI (a.tr.set 0 (t0 ++ [y])) (.slice o3 (outS (cs.set 0 (.slice o1 (t0.map intRow ++ [y].map intRow).length c1', t0.map intRow ++ [y].map intRow))).length c3')) rfl rfl rfl rfl (lst_join (hc.set happ)) ?_; conv => whnf) | (refine ret_join (id1 := 8000) (id2 := 8003) (id3 := 8004) (I3 := DepV ⟨a.sz, a.tr.set 0 (t0 ++ [y])⟩ (.agg #[.slice o2 (a.sz.map intRow).length c2', .slice o3 (outS (cs.set 0 (.slice o1 (t0.map intRow ++ [y].map intRow).length c1', t0.map intRow ++ [y].map intRow))).length c3'])) rfl rfl rfl rfl (dep_join (d := ⟨a.sz, a.tr.set 0 (t0 ++ [y])⟩)) ?_; conv => whnf) | (refine ret_plainBox (bid := 1002) (id := 8004) (ds := [.other (.slice o2 (a.sz.map intRow).length c2'), .other (.slice o3 (outS (cs.set 0 (.slice o1 (t0.map intRow ++ [y].map intRow).length c1', t0.map intRow ++ [y].map intRow))).length c3')]) (ds' := Depot.enc ⟨a.sz, a.tr.set 0 (t0 ++ [y])⟩) rfl rfl dep_plain ?_; conv => whnf) | refine go_seq ?_ | refine go_region ?_ | refine go_draw drawsOk ?_ | ((first | refine go_op rfl ?_ | refine go_nil ?_ | refine go_storeBox rfl rfl rfl rfl rfl rfl ?_ | refine go_dop rfl ?_ | refine go_dend (by kernel_rfl) ?_ | refine Two.mk ?_ trivial | refine Two.mk ?_ ?_ | refine go_call [2] (hp) rfl rfl rfl rfl ?_ | refine go_call [2, 1] (hd1) rfl rfl rfl rfl ?_ | refine go_append (rows2 := [y].map intRow) rfl rfl rfl rfl rfl rfl rfl rfl rfl rfl rfl rfl hone rfl rfl rfl hbd ?_ | refine go_storeRow rfl rfl rfl rfl (outS_at hxi) rfl rfl (outS_set (v := .slice o1 (t0.map intRow ++ [y].map intRow).length c1') (r := t0.map intRow ++ [y].map intRow)) ?_ | refine go_idxOwnI (j := 0) rfl rfl rfl rfl rfl rfl rfl hil ?_ | refine go_loadEl (i := 0) rfl rfl rfl (outS_at hxi) ?_) <;> conv => whnf) | ((first | refine Or.inl ?_ | refine go_loadB ?_ | refine ⟨by kernel_rfl, ?_⟩ | refine go_ret ?_) <;> conv => whnf) | refine go_block ?_ | ((first | refine go_skip ?_ | refine go_exit ?_) <;> conv => whnf) | refine go_true rfl ?_ | refine go_false rfl ?_ | refine go_cond rfl (fun h => ?_) (fun h => ?_) | refine ⟨rfl, ?_⟩ | ((first | refine ⟨trivial, ?_⟩ | refine ⟨le_of_ble rfl, ?_⟩) <;> conv => whnf) | fail
      all_goals first
        | (exfalso; simp at h; done)
        | (exfalso; simp only [decide_eq_true_eq, decide_eq_false_iff_not] at *; omega)
        | exact ret_box1 rfl rfl rfl rfl rfl rfl
        | trace_state
    · rw [if_neg c0, if_neg c1]
      have hgt := outS_gr cs
      repeat' first | (refine ret_boxCell (bid := 1002) (j := 0) (id := 1004) (id' := 8000) (ty := 3) (sz := 1) (rows := a.sz.map intRow) rfl rfl rfl hls hgs rfl ?_; intro o1 c1; conv => whnf) | (refine ret_boxCell (bid := 1002) (j := 1) (id := 1005) (id' := 8001) (ty := 24) (sz := 1) (rows := outS cs) rfl rfl rfl rfl hgt rfl ?_; intro o2 c2; conv => whnf) | (refine ret_join (id1 := 8001) (id2 := 9024) (id3 := 8002) (I3 := LstI (⟨a.sz, a.tr⟩ : Depot).tracks (.slice o2 (outS cs).length c2)) rfl rfl rfl rfl (lst_join hc) ?_; conv => whnf) | (refine ret_join (id1 := 8000) (id2 := 8002) (id3 := 8003) (I3 := DepV (⟨a.sz, a.tr⟩ : Depot) (.agg #[.slice o1 (a.sz.map intRow).length c1, .slice o2 (outS cs).length c2])) rfl rfl rfl rfl (dep_join' hse) ?_; conv => whnf) | (refine ret_plainBox (bid := 1002) (id := 8003) (ds := [.other (.slice o1 (a.sz.map intRow).length c1), .other (.slice o2 (outS cs).length c2)]) (ds' := ((⟨a.sz, a.tr⟩ : Depot)).enc) rfl rfl dep_plain ?_; conv => whnf) | refine go_seq ?_ | refine go_region ?_ | refine go_draw drawsOk ?_ | ((first | refine go_op rfl ?_ | refine go_nil ?_ | refine go_storeBox rfl rfl rfl rfl rfl rfl ?_ | refine go_dop rfl ?_ | refine go_dend (by kernel_rfl) ?_ | refine go_call [2] (hp) rfl rfl rfl rfl ?_) <;> conv => whnf) | ((first | refine Or.inl ?_ | refine go_loadB ?_ | refine ⟨by kernel_rfl, ?_⟩ | refine go_ret ?_) <;> conv => whnf) | refine go_block ?_ | ((first | refine go_skip ?_ | refine go_exit ?_) <;> conv => whnf) | refine go_true rfl ?_ | refine go_false rfl ?_ | refine go_cond rfl (fun h => ?_) (fun h => ?_) | refine ⟨rfl, ?_⟩ | ((first | refine ⟨trivial, ?_⟩ | refine ⟨le_of_ble rfl, ?_⟩) <;> conv => whnf) | fail
      all_goals first
        | (exfalso; simp at h; done)
        | (exfalso; simp only [decide_eq_true_eq, decide_eq_false_iff_not] at *; omega)
        | (exfalso; simp at h; omega)
        | exact ret_box1 rfl rfl rfl rfl rfl rfl
        | trace_state
end Go.Proofs.Ytkjigbbbobijnaa

