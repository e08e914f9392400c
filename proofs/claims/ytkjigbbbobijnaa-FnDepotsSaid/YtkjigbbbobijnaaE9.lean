/- Parking and taking: the reference. -/
import Derived.Test.YtkjigbbbobijnaaE7
import Derived.Test.YtkjigbbbobijnaaE6
namespace Go.Proofs.Ytkjigbbbobijnaa
open Go Go.Am
set_option maxRecDepth 100000
set_option maxHeartbeats 16000000
attribute [local irreducible] amOps amC opCall opIndexAddr opPick retQ opMake opStore amDraw opAppend opLoad opNilCmp opIndex opSlice xQ inlQ

def keepD (d : Depot) (o : Option Depot) : Depot := match o with | some p => p | none => d
theorem c25 (d : Depot) (hf : d.fit) (hok : depOk d = true) (v t : Int) : CallOk Try.prog 25 [.imm (.agg d.enc), .imm (.int .i64 v), .imm (.int .i64 t)] { res := [.imm (.agg (keepD d (parkD d v t)).enc), .imm (.bool (opB (parkD d v t)))], sep := false } := by
  refine callOk_of tyOk Try.func25 rfl rfl (le_of_ble rfl) (le_of_ble rfl) (mutOk_imm rfl _) ?_
  have hC := x39 d hf
  have hT0 := c31 d hf v
  obtain ⟨g1, g2, g3, _, _⟩ := depOk_iff.1 hok
  obtain ⟨f1, f2, f3⟩ := hf
  have hWr : CallOk Try.prog 37 [.imm (.int .i64 t), .imm (.int .i64 0), .imm (.int .i64 (IntKind.i64.wrap (((d.sizes.map intRow).length : Int) - 1)))] { res := [.imm (.bool (inR t 0 ((d.sizes.length : Int) - 1)))] } := by
    rw [List.length_map, wrap_small (by omega) (by omega)]; exact c37 _ _ _
  by_cases hrg : 0 ≤ t ∧ t < d.tracks.length
  case neg =>
    have hnone : parkD d v t = none := by unfold parkD; rw [if_neg (fun h => hrg ⟨h.1, h.2.1⟩)]
    have hin : inR t 0 ((d.sizes.length : Int) - 1) = false := by
      cases hq : inR t 0 ((d.sizes.length : Int) - 1) with
      | false => rfl
      | true => simp only [inR, Bool.and_eq_true, decide_eq_true_eq] at hq; omega
    rw [hin] at hWr
    rw [hnone]
    repeat' first | refine go_seq ?_ | refine go_region ?_ | refine go_miss rfl rfl rfl ?_ | refine go_undef rfl rfl rfl ?_ | refine go_draw drawsOk ?_ | ((first | refine go_op rfl ?_ | refine go_nil ?_ | refine go_hit rfl rfl rfl ?_ | refine go_splitT rfl rfl rfl (fun h => ?_) (fun h => ?_) | refine go_splitF rfl rfl rfl (fun h => ?_) (fun h => ?_) | refine go_storeBox rfl rfl rfl rfl rfl rfl ?_ | refine go_dop rfl ?_ | refine go_dhit rfl rfl ?_ | refine go_dmiss rfl rfl ?_ | refine go_dundef rfl rfl ?_ | refine go_dend (by kernel_rfl) ?_ | refine go_pickT rfl ?_ | refine go_pickF rfl ?_ | refine go_pick rfl (fun h => ?_) (fun h => ?_) | refine go_call [] (hWr) rfl rfl rfl rfl ?_) <;> conv => whnf) | ((first | refine Or.inl ?_ | refine go_dsplit2 rfl (fun h => ?_) (fun h => ?_) | refine go_loadB ?_ | refine ⟨by kernel_rfl, ?_⟩ | refine go_ret ?_) <;> conv => whnf) | refine go_block ?_ | ((first | refine go_skip ?_ | refine go_exit ?_) <;> conv => whnf) | refine go_true rfl ?_ | refine go_false rfl ?_ | refine go_cond rfl (fun h => ?_) (fun h => ?_) | refine ⟨rfl, ?_⟩ | ((first | refine ⟨trivial, ?_⟩ | refine ⟨le_of_ble rfl, ?_⟩) <;> conv => whnf) | fail
    all_goals first
      | exact ret_all rfl ⟨⟨rfl, fun h => by cases h⟩, ⟨rfl, fun h => by cases h⟩, trivial⟩ List.nodup_nil List.nodup_nil trivial
      | (exfalso; simp at h; done)
      | (exfalso; simp at h; omega)
      | (exfalso; simp only [decide_eq_true_eq, decide_eq_false_iff_not, List.length_map] at *; omega)
      | (exfalso; simp_all; done)
      | trace_state
  have hin : inR t 0 ((d.sizes.length : Int) - 1) = true := by simp only [inR, Bool.and_eq_true, decide_eq_true_eq]; omega
  rw [hin] at hWr
  obtain ⟨i, rfl⟩ : ∃ i : Nat, t = (i : Nat) := ⟨t.toNat, by omega⟩
  have hi : i < d.tracks.length := by omega
  have ht := trk_at hi
  obtain ⟨s, hs⟩ : ∃ s, d.sizes[i]? = some s := ⟨_, List.getElem?_eq_getElem (by omega)⟩
  have hsg : d.sizes.getD i 0 = s := by rw [List.getD_eq_getElem?_getD, hs]; rfl
  have hszs := szOk_at g3 hs
  have htf := f3 _ (List.mem_of_getElem? ht)
  have hpd : parkD d v ((i : Nat) : Int) = if ((trk d.tracks i).length : Int) < s ∧ inR v 1 99 = true ∧ plc d.tracks v = none then some ⟨d.sizes, d.tracks.set i (trk d.tracks i ++ [v])⟩ else none := by
    unfold parkD
    rw [Int.toNat_natCast, hsg]
    by_cases h3 : ((trk d.tracks i).length : Int) < s ∧ inR v 1 99 = true ∧ plc d.tracks v = none
    · rw [if_pos h3, if_pos ⟨by omega, by omega, h3⟩]
    · rw [if_neg h3, if_neg (fun h => h3 ⟨h.2.2.1, h.2.2.2⟩)]
  rw [hpd]
  generalize trk d.tracks i = tr at *
  have hij : ((i : Nat) : Int) = ((i : Nat) : Int) := rfl
  have hr1 := row_at intRow hs
  have hr2 := ints_row ht
  have hW := c37 v 1 99
  by_cases hb : (tr.length : Int) < s
  case neg =>
    rw [if_neg (fun h => hb h.1)]
    repeat' first | refine go_seq ?_ | refine go_region ?_ | refine go_miss rfl rfl rfl ?_ | refine go_undef rfl rfl rfl ?_ | refine go_draw drawsOk ?_ | ((first | refine go_op rfl ?_ | refine go_nil ?_ | refine go_hit rfl rfl rfl ?_ | refine go_splitT rfl rfl rfl (fun h => ?_) (fun h => ?_) | refine go_splitF rfl rfl rfl (fun h => ?_) (fun h => ?_) | refine go_storeBox rfl rfl rfl rfl rfl rfl ?_ | refine go_dop rfl ?_ | refine go_dhit rfl rfl ?_ | refine go_dmiss rfl rfl ?_ | refine go_dundef rfl rfl ?_ | refine go_dend (by kernel_rfl) ?_ | refine go_pickT rfl ?_ | refine go_pickF rfl ?_ | refine go_pick rfl (fun h => ?_) (fun h => ?_) | refine go_call [] (hWr) rfl rfl rfl rfl ?_ | refine go_call [] (hW) rfl rfl rfl rfl ?_ | refine go_idx rfl rfl rfl rfl (by omega) hr1 rfl ?_ | refine go_idx rfl rfl rfl rfl (by omega) hr2 rfl ?_) <;> conv => whnf) | ((first | refine Or.inl ?_ | refine go_dsplit2 rfl (fun h => ?_) (fun h => ?_) | refine go_loadB ?_ | refine ⟨by kernel_rfl, ?_⟩ | refine go_ret ?_) <;> conv => whnf) | refine go_block ?_ | ((first | refine go_skip ?_ | refine go_exit ?_) <;> conv => whnf) | refine go_true rfl ?_ | refine go_false rfl ?_ | refine go_cond rfl (fun h => ?_) (fun h => ?_) | refine ⟨rfl, ?_⟩ | ((first | refine ⟨trivial, ?_⟩ | refine ⟨le_of_ble rfl, ?_⟩) <;> conv => whnf) | fail
    all_goals first
      | exact ret_all rfl ⟨⟨rfl, fun h => by cases h⟩, ⟨rfl, fun h => by cases h⟩, trivial⟩ List.nodup_nil List.nodup_nil trivial
      | (exfalso; simp at h; done)
      | (exfalso; simp at h; omega)
      | (exfalso; simp only [decide_eq_true_eq, decide_eq_false_iff_not, List.length_map] at *; omega)
      | (exfalso; simp_all; done)
      | trace_state
  by_cases hv19 : inR v 1 99 = true
  case neg =>
    rw [if_neg (fun h => hv19 h.2.1)]
    have hv19' : inR v 1 99 = false := by simpa using hv19
    rw [hv19'] at hW
    repeat' first | refine go_seq ?_ | refine go_region ?_ | refine go_miss rfl rfl rfl ?_ | refine go_undef rfl rfl rfl ?_ | refine go_draw drawsOk ?_ | ((first | refine go_op rfl ?_ | refine go_nil ?_ | refine go_hit rfl rfl rfl ?_ | refine go_splitT rfl rfl rfl (fun h => ?_) (fun h => ?_) | refine go_splitF rfl rfl rfl (fun h => ?_) (fun h => ?_) | refine go_storeBox rfl rfl rfl rfl rfl rfl ?_ | refine go_dop rfl ?_ | refine go_dhit rfl rfl ?_ | refine go_dmiss rfl rfl ?_ | refine go_dundef rfl rfl ?_ | refine go_dend (by kernel_rfl) ?_ | refine go_pickT rfl ?_ | refine go_pickF rfl ?_ | refine go_pick rfl (fun h => ?_) (fun h => ?_) | refine go_call [] (hWr) rfl rfl rfl rfl ?_ | refine go_call [] (hW) rfl rfl rfl rfl ?_ | refine go_idx rfl rfl rfl rfl (by omega) hr1 rfl ?_ | refine go_idx rfl rfl rfl rfl (by omega) hr2 rfl ?_) <;> conv => whnf) | ((first | refine Or.inl ?_ | refine go_dsplit2 rfl (fun h => ?_) (fun h => ?_) | refine go_loadB ?_ | refine ⟨by kernel_rfl, ?_⟩ | refine go_ret ?_) <;> conv => whnf) | refine go_block ?_ | ((first | refine go_skip ?_ | refine go_exit ?_) <;> conv => whnf) | refine go_true rfl ?_ | refine go_false rfl ?_ | refine go_cond rfl (fun h => ?_) (fun h => ?_) | refine ⟨rfl, ?_⟩ | ((first | refine ⟨trivial, ?_⟩ | refine ⟨le_of_ble rfl, ?_⟩) <;> conv => whnf) | fail
    all_goals first
      | exact ret_all rfl ⟨⟨rfl, fun h => by cases h⟩, ⟨rfl, fun h => by cases h⟩, trivial⟩ List.nodup_nil List.nodup_nil trivial
      | (exfalso; simp at h; done)
      | (exfalso; simp at h; omega)
      | (exfalso; simp only [decide_eq_true_eq, decide_eq_false_iff_not, List.length_map] at *; omega)
      | (exfalso; simp_all; done)
      | trace_state
  rw [hv19] at hW
  cases hp : plc d.tracks v with
  | some y =>
    obtain ⟨pi, pk⟩ := y
    rw [if_neg (fun h => by cases h.2.2)]
    rw [hp] at hT0
    have hT : CallOk Try.prog 31 [.imm (.agg d.enc), .imm (.int .i64 v)] { res := [.imm (.int .i64 ((pi : Nat) : Int)), .imm (.int .i64 ((pk : Nat) : Int))] } := hT0
    repeat' first | refine go_seq ?_ | refine go_region ?_ | refine go_miss rfl rfl rfl ?_ | refine go_undef rfl rfl rfl ?_ | refine go_draw drawsOk ?_ | ((first | refine go_op rfl ?_ | refine go_nil ?_ | refine go_hit rfl rfl rfl ?_ | refine go_splitT rfl rfl rfl (fun h => ?_) (fun h => ?_) | refine go_splitF rfl rfl rfl (fun h => ?_) (fun h => ?_) | refine go_storeBox rfl rfl rfl rfl rfl rfl ?_ | refine go_dop rfl ?_ | refine go_dhit rfl rfl ?_ | refine go_dmiss rfl rfl ?_ | refine go_dundef rfl rfl ?_ | refine go_dend (by kernel_rfl) ?_ | refine go_pickT rfl ?_ | refine go_pickF rfl ?_ | refine go_pick rfl (fun h => ?_) (fun h => ?_) | refine go_call [] (hWr) rfl rfl rfl rfl ?_ | refine go_call [] (hW) rfl rfl rfl rfl ?_ | refine go_call [] (hT) rfl rfl rfl rfl ?_ | refine go_idx rfl rfl rfl rfl (by omega) hr1 rfl ?_ | refine go_idx rfl rfl rfl rfl (by omega) hr2 rfl ?_) <;> conv => whnf) | ((first | refine Or.inl ?_ | refine go_dsplit2 rfl (fun h => ?_) (fun h => ?_) | refine go_loadB ?_ | refine ⟨by kernel_rfl, ?_⟩ | refine go_ret ?_) <;> conv => whnf) | refine go_block ?_ | ((first | refine go_skip ?_ | refine go_exit ?_) <;> conv => whnf) | refine go_true rfl ?_ | refine go_false rfl ?_ | refine go_cond rfl (fun h => ?_) (fun h => ?_) | refine ⟨rfl, ?_⟩ | ((first | refine ⟨trivial, ?_⟩ | refine ⟨le_of_ble rfl, ?_⟩) <;> conv => whnf) | fail
    all_goals first
      | exact ret_all rfl ⟨⟨rfl, fun h => by cases h⟩, ⟨rfl, fun h => by cases h⟩, trivial⟩ List.nodup_nil List.nodup_nil trivial
      | (exfalso; simp at h; done)
      | (exfalso; simp at h; omega)
      | (exfalso; simp only [decide_eq_true_eq, decide_eq_false_iff_not, List.length_map] at *; omega)
      | (exfalso; simp_all; done)
      | trace_state
  | none =>
    rw [if_pos ⟨hb, hv19, rfl⟩]
    rw [hp] at hT0
    have hT : CallOk Try.prog 31 [.imm (.agg d.enc), .imm (.int .i64 v)] { res := [.imm (.int .i64 (-1)), .imm (.int .i64 (-1))] } := hT0
    have hbd : (tr.map intRow).length + 1 ≤ 1073741824 := by rw [List.length_map]; omega
    have hone : ([v].map intRow).all (fun r => r.all D.one) = true := rfl
    have hgr2 : (tr.map intRow ++ [v].map intRow).all (fun r => r.all D.gr) = true := by rw [← List.map_append]; exact List.all_eq_true.2 (int_gr _)
    have happ : tr.map intRow ++ [v].map intRow = (tr ++ [v]).map intRow := by rw [List.map_append]
    repeat' first | (refine go_split tyOk (X := { x : Sl × Sl // r = .agg #[x.1.v, x.2.v] }) (id := nid 5 48) (id1 := 3000) (id2 := 3001) (I1 := fun x => FlatI 3 1 (d.sizes.map intRow) x.1.1.v) (I2 := fun x => LstI d.tracks x.1.2.v) rfl rfl rfl rfl (fun w F hF => dep_open hF) ?_; rintro ⟨⟨⟨a1, n1, c1⟩, a2, n2, c2⟩, hv⟩; subst hv; conv => whnf) | (refine go_split tyOk (X := { q : List Cell × Option Addr × Nat // TOk d.tracks q.1 ∧ q.1[i]? = some (.slice q.2.1 (tr.map intRow).length q.2.2, tr.map intRow) }) (id := 3001) (id1 := 3002) (id2 := 9024) (I1 := fun x => FlatI 24 1 (outS x.1.1) (.slice a2 n2 c2)) (I2 := fun x => InnI 3 1 x.1.1) rfl rfl rfl rfl (fun w F hF => lst_openAt ht hF) ?_; rintro ⟨⟨xs, oa, oc⟩, hx, hxi⟩; simp only at hx hxi; have hil := idx_lt hx hi; conv => whnf) | (refine go_ownCell tyOk (s := 48) (j := 1) (id := 3002) (id' := 3003) (ty := 24) (sz := 1) (ds := [.other (.slice a1 n1 c1), .other (.slice a2 n2 c2)]) (rows := outS xs) (v := .slice a2 n2 c2) rfl rfl rfl (fun w F h => h) rfl ?_; conv => whnf) | (refine go_ownCellM tyOk (s := 48) (j := 0) (id := 3000) (id' := 3004) (ty := 3) (sz := 1) (rows := d.sizes.map intRow) (v := .slice a1 n1 c1) rfl rfl rfl (fun w F h => h) rfl ?_; conv => whnf) | (refine go_ext (ext_xcall hC [] (fun _ _ => True) (v := Value.slice none 0 0) [] ⟨look_imm _ _ _, trivial⟩ (by simp) (.inr fun u => ⟨rfl, rfl, rfl⟩) (split_no _ _) have0 rfl rfl rfl rfl ?_); intro r; conv => whnf) | (refine go_drawT 7 11 drawsOk ?_; conv => whnf) | (refine go_dtake rfl (v := .slice oa (tr.map intRow).length oc) (id := 9024) (aty := 3) (sz := 1) (rows := tr.map intRow) (I := InnI 3 1 xs) (I' := InnO 3 1 xs i) (take_at hxi) ?_; (conv => whnf); refine ⟨(by (conv => whnf);                                                                                                                                                                                                       exact go_loadEl (i := i) rfl rfl rfl (outS_at hxi) rfl), rfl, rfl, rfl, ?_⟩; conv => whnf) | (refine go_exact tyOk (s := 59) (id := nid 6 59) (id' := 6000) (ty := 3) (sz := 1) (rows := tr.map intRow ++ [v].map intRow) rfl rfl (by simp) hgr2 rfl ?_; intro o1 c1'; conv => whnf) | (refine ret_boxCell (bid := nid 1 6) (j := 0) (id := 3004) (id' := 8000) (ty := 3) (sz := 1) (rows := d.sizes.map intRow) rfl rfl rfl rfl (List.all_eq_true.2 (int_gr _)) rfl ?_; intro o2 c2'; conv => whnf) | (refine ret_boxCell (bid := nid 1 6) (j := 1) (id := 3003) (id' := 8001) (ty := 24) (sz := 1) (rows := outS (xs.set i (.slice o1 (tr.map intRow ++ [v].map intRow).length c1', tr.map intRow ++ [v].map intRow))) rfl rfl rfl (by simp [outS]) (outS_gr _) rfl ?_; intro o3 c3'; conv => whnf) | (refine ret_join (id1 := rid 6 56 1) (id2 := 6000) (id3 := 8002) (I3 := InnI 3 1 (xs.set i (.slice o1 (tr.map intRow ++ [v].map intRow).length c1', tr.map intRow ++ [v].map intRow))) rfl rfl rfl rfl put_at ?_; conv => whnf) | (refine ret_join (id1 := 8001) (id2 := 8002) (id3 := 8003) (I3 := LstI (d.tracks.set i (tr ++ [v])) (.slice o3 (outS (xs.set i (.slice o1 (tr.map intRow ++ [v].map intRow).length c1', tr.map intRow ++ [v].map intRow))).length c3')) rfl rfl rfl rfl (lst_join (hx.set happ)) ?_; conv => whnf) | (refine ret_join (id1 := 8000) (id2 := 8003) (id3 := 8004) (I3 := DepV ⟨d.sizes, d.tracks.set i (tr ++ [v])⟩ (.agg #[.slice o2 (d.sizes.map intRow).length c2', .slice o3 (outS (xs.set i (.slice o1 (tr.map intRow ++ [v].map intRow).length c1', tr.map intRow ++ [v].map intRow))).length c3'])) rfl rfl rfl rfl (dep_join (d := ⟨d.sizes, d.tracks.set i (tr ++ [v])⟩)) ?_; conv => whnf) | (refine ret_plainBox (bid := nid 1 6) (id := 8004) (ds := [.other (.slice o2 (d.sizes.map intRow).length c2'), .other (.slice o3 (outS (xs.set i (.slice o1 (tr.map intRow ++ [v].map intRow).length c1', tr.map intRow ++ [v].map intRow))).length c3')]) (ds' := Depot.enc ⟨d.sizes, d.tracks.set i (tr ++ [v])⟩) rfl rfl dep_plain ?_; conv => whnf) | refine go_seq ?_ | refine go_region ?_ | refine go_miss rfl rfl rfl ?_ | refine go_undef rfl rfl rfl ?_ | refine go_draw drawsOk ?_ | ((first | refine go_op rfl ?_ | refine go_nil ?_ | refine go_hit rfl rfl rfl ?_ | refine go_splitT rfl rfl rfl (fun h => ?_) (fun h => ?_) | refine go_splitF rfl rfl rfl (fun h => ?_) (fun h => ?_) | refine go_storeBox rfl rfl rfl rfl rfl rfl ?_ | refine go_dop rfl ?_ | refine go_dhit rfl rfl ?_ | refine go_dmiss rfl rfl ?_ | refine go_dundef rfl rfl ?_ | refine go_dend (by kernel_rfl) ?_ | refine go_pickT rfl ?_ | refine go_pickF rfl ?_ | refine go_pick rfl (fun h => ?_) (fun h => ?_) | refine Two.mk ?_ trivial | refine Two.mk ?_ ?_ | refine go_call [] (hWr) rfl rfl rfl rfl ?_ | refine go_call [] (hW) rfl rfl rfl rfl ?_ | refine go_call [] (hT) rfl rfl rfl rfl ?_ | refine go_append (rows2 := [v].map intRow) rfl rfl rfl rfl rfl rfl rfl rfl rfl rfl rfl rfl hone rfl rfl rfl hbd ?_ | refine go_storeRow rfl rfl rfl rfl (outS_at hxi) rfl rfl (outS_set (v := .slice o1 (tr.map intRow ++ [v].map intRow).length c1') (r := tr.map intRow ++ [v].map intRow)) ?_ | refine go_idxOwnI (j := i) rfl rfl hij rfl rfl rfl rfl hil ?_ | refine go_loadEl (i := i) rfl rfl rfl (outS_at hxi) ?_ | refine go_idx rfl rfl rfl rfl (by omega) hr1 rfl ?_ | refine go_idx rfl rfl rfl rfl (by omega) hr2 rfl ?_) <;> conv => whnf) | ((first | refine Or.inl ?_ | refine go_dsplit2 rfl (fun h => ?_) (fun h => ?_) | refine go_loadB ?_ | refine ⟨by kernel_rfl, ?_⟩ | refine go_ret ?_) <;> conv => whnf) | refine go_block ?_ | ((first | refine go_skip ?_ | refine go_exit ?_) <;> conv => whnf) | refine go_true rfl ?_ | refine go_false rfl ?_ | refine go_cond rfl (fun h => ?_) (fun h => ?_) | refine ⟨rfl, ?_⟩ | ((first | refine ⟨trivial, ?_⟩ | refine ⟨le_of_ble rfl, ?_⟩) <;> conv => whnf) | fail
    all_goals first
      | exact ret_all rfl ⟨⟨rfl, fun h => by cases h⟩, ⟨rfl, fun h => by cases h⟩, trivial⟩ List.nodup_nil List.nodup_nil trivial
      | (exfalso; simp at h; done)
      | (exfalso; simp at h; omega)
      | (exfalso; simp only [decide_eq_true_eq, decide_eq_false_iff_not, List.length_map] at *; omega)
      | (exfalso; simp_all; done)
      | trace_state
theorem takeD_some' {d : Depot} {v : Int} {i k : Nat} (h : plc d.tracks v = some (i, k)) : takeD d v = if k + 1 = (trk d.tracks i).length then some ⟨d.sizes, d.tracks.set i ((trk d.tracks i).take k)⟩ else none := by unfold takeD; rw [h]
theorem takeD_none' {d : Depot} {v : Int} (h : plc d.tracks v = none) : takeD d v = none := by unfold takeD; rw [h]
theorem c30 (d : Depot) (hf : d.fit) (v : Int) : CallOk Try.prog 30 [.imm (.agg d.enc), .imm (.int .i64 v)] { res := [.imm (.agg (keepD d (takeD d v)).enc), .imm (.bool (opB (takeD d v)))], sep := false } := by
  refine callOk_of tyOk Try.func30 rfl rfl (le_of_ble rfl) (le_of_ble rfl) (mutOk_imm rfl _) ?_
  have hC := x39 d hf
  have hT0 := c31 d hf v
  obtain ⟨f1, f2, f3⟩ := hf
  cases hp : plc d.tracks v with
  | none =>
    rw [takeD_none' hp]
    rw [hp] at hT0
    have hT : CallOk Try.prog 31 [.imm (.agg d.enc), .imm (.int .i64 v)] { res := [.imm (.int .i64 (-1)), .imm (.int .i64 (-1))] } := hT0
    repeat' first | refine go_seq ?_ | refine go_region ?_ | refine go_miss rfl rfl rfl ?_ | refine go_undef rfl rfl rfl ?_ | refine go_draw drawsOk ?_ | ((first | refine go_op rfl ?_ | refine go_nil ?_ | refine go_hit rfl rfl rfl ?_ | refine go_splitT rfl rfl rfl (fun h => ?_) (fun h => ?_) | refine go_splitF rfl rfl rfl (fun h => ?_) (fun h => ?_) | refine go_storeBox rfl rfl rfl rfl rfl rfl ?_ | refine go_dop rfl ?_ | refine go_dhit rfl rfl ?_ | refine go_dmiss rfl rfl ?_ | refine go_dundef rfl rfl ?_ | refine go_dend (by kernel_rfl) ?_ | refine go_pickT rfl ?_ | refine go_pickF rfl ?_ | refine go_pick rfl (fun h => ?_) (fun h => ?_) | refine go_call [] (hT) rfl rfl rfl rfl ?_) <;> conv => whnf) | ((first | refine Or.inl ?_ | refine go_dsplit2 rfl (fun h => ?_) (fun h => ?_) | refine go_loadB ?_ | refine ⟨by kernel_rfl, ?_⟩ | refine go_ret ?_) <;> conv => whnf) | refine go_block ?_ | ((first | refine go_skip ?_ | refine go_exit ?_) <;> conv => whnf) | refine go_true rfl ?_ | refine go_false rfl ?_ | refine go_cond rfl (fun h => ?_) (fun h => ?_) | refine ⟨rfl, ?_⟩ | ((first | refine ⟨trivial, ?_⟩ | refine ⟨le_of_ble rfl, ?_⟩) <;> conv => whnf) | fail
    all_goals first
      | exact ret_all rfl ⟨⟨rfl, fun h => by cases h⟩, ⟨rfl, fun h => by cases h⟩, trivial⟩ List.nodup_nil List.nodup_nil trivial
      | (exfalso; simp at h; done)
      | (exfalso; simp at h; omega)
      | (exfalso; simp only [decide_eq_true_eq, decide_eq_false_iff_not, List.length_map] at *; omega)
      | (exfalso; simp_all; done)
      | trace_state
  | some y =>
  obtain ⟨i, k⟩ := y
  rw [takeD_some' hp]
  rw [hp] at hT0
  have hT : CallOk Try.prog 31 [.imm (.agg d.enc), .imm (.int .i64 v)] { res := [.imm (.int .i64 ((i : Nat) : Int)), .imm (.int .i64 ((k : Nat) : Int))] } := hT0
  obtain ⟨_, hi, _, hk⟩ := plcF_some hp
  rw [Nat.sub_zero] at hi hk
  have ht := trk_at hi
  have htf := f3 _ (List.mem_of_getElem? ht)
  generalize trk d.tracks i = tr at *
  have hij : ((i : Nat) : Int) = ((i : Nat) : Int) := rfl
  have hr2 := ints_row ht
  have hr1 := hr2
  have hw1 : IntKind.i64.wrap (((tr.map intRow).length : Int) - 1) = (tr.length : Int) - 1 := by rw [List.length_map, wrap_small (by omega) (by omega)]
  by_cases hlast : k + 1 = tr.length
  case neg =>
    rw [if_neg hlast]
    repeat' first | refine go_seq ?_ | refine go_region ?_ | refine go_miss rfl rfl rfl ?_ | refine go_undef rfl rfl rfl ?_ | refine go_draw drawsOk ?_ | ((first | refine go_op rfl ?_ | refine go_nil ?_ | refine go_hit rfl rfl rfl ?_ | refine go_splitT rfl rfl rfl (fun h => ?_) (fun h => ?_) | refine go_splitF rfl rfl rfl (fun h => ?_) (fun h => ?_) | refine go_storeBox rfl rfl rfl rfl rfl rfl ?_ | refine go_dop rfl ?_ | refine go_dhit rfl rfl ?_ | refine go_dmiss rfl rfl ?_ | refine go_dundef rfl rfl ?_ | refine go_dend (by kernel_rfl) ?_ | refine go_pickT rfl ?_ | refine go_pickF rfl ?_ | refine go_pick rfl (fun h => ?_) (fun h => ?_) | refine go_call [] (hT) rfl rfl rfl rfl ?_ | refine go_idx rfl rfl rfl rfl (by omega) hr1 rfl ?_ | refine go_idx rfl rfl rfl rfl (by omega) hr2 rfl ?_) <;> conv => whnf) | ((first | refine Or.inl ?_ | refine go_dsplit2 rfl (fun h => ?_) (fun h => ?_) | refine go_loadB ?_ | refine ⟨by kernel_rfl, ?_⟩ | refine go_ret ?_) <;> conv => whnf) | refine go_block ?_ | ((first | refine go_skip ?_ | refine go_exit ?_) <;> conv => whnf) | refine go_true rfl ?_ | refine go_false rfl ?_ | refine go_cond rfl (fun h => ?_) (fun h => ?_) | refine ⟨rfl, ?_⟩ | ((first | refine ⟨trivial, ?_⟩ | refine ⟨le_of_ble rfl, ?_⟩) <;> conv => whnf) | fail
    all_goals first
      | exact ret_all rfl ⟨⟨rfl, fun h => by cases h⟩, ⟨rfl, fun h => by cases h⟩, trivial⟩ List.nodup_nil List.nodup_nil trivial
      | (exfalso; rw [hw1] at h; simp at h; omega)
      | (exfalso; simp at h; done)
      | (exfalso; simp at h; omega)
      | (exfalso; simp only [decide_eq_true_eq, decide_eq_false_iff_not, List.length_map] at *; omega)
      | (exfalso; simp_all; done)
      | trace_state
  rw [if_pos hlast]
  have hkl : k ≤ (tr.map intRow).length := by rw [List.length_map]; omega
  have htk : (tr.map intRow).take k = (tr.take k).map intRow := by rw [List.map_take]
  have htl : ((tr.take k).map intRow).length = k := by rw [List.length_map, List.length_take]; omega
  repeat' first | (refine go_split tyOk (X := { x : Sl × Sl // r = .agg #[x.1.v, x.2.v] }) (id := nid 4 30) (id1 := 3000) (id2 := 3001) (I1 := fun x => FlatI 3 1 (d.sizes.map intRow) x.1.1.v) (I2 := fun x => LstI d.tracks x.1.2.v) rfl rfl rfl rfl (fun w F hF => dep_open hF) ?_; rintro ⟨⟨⟨a1, n1, c1⟩, a2, n2, c2⟩, hv⟩; subst hv; conv => whnf) | (refine go_split tyOk (X := { q : List Cell × Option Addr × Nat // TOk d.tracks q.1 ∧ q.1[i]? = some (.slice q.2.1 (tr.map intRow).length q.2.2, tr.map intRow) }) (id := 3001) (id1 := 3002) (id2 := 9024) (I1 := fun x => FlatI 24 1 (outS x.1.1) (.slice a2 n2 c2)) (I2 := fun x => InnI 3 1 x.1.1) rfl rfl rfl rfl (fun w F hF => lst_openAt ht hF) ?_; rintro ⟨⟨xs, oa, oc⟩, hx, hxi⟩; simp only at hx hxi; have hil := idx_lt hx hi; conv => whnf) | (refine go_ownCell tyOk (s := 30) (j := 1) (id := 3002) (id' := 3003) (ty := 24) (sz := 1) (ds := [.other (.slice a1 n1 c1), .other (.slice a2 n2 c2)]) (rows := outS xs) (v := .slice a2 n2 c2) rfl rfl rfl (fun w F h => h) rfl ?_; conv => whnf) | (refine go_ownCellM tyOk (s := 30) (j := 0) (id := 3000) (id' := 3004) (ty := 3) (sz := 1) (rows := d.sizes.map intRow) (v := .slice a1 n1 c1) rfl rfl rfl (fun w F h => h) rfl ?_; conv => whnf) | (refine go_ext (ext_xcall hC [] (fun _ _ => True) (v := Value.slice none 0 0) [] ⟨look_imm _ _ _, trivial⟩ (by simp) (.inr fun u => ⟨rfl, rfl, rfl⟩) (split_no _ _) have0 rfl rfl rfl rfl ?_); intro r; conv => whnf) | (refine go_drawT 5 10 drawsOk ?_; conv => whnf) | (refine go_dtake rfl (v := .slice oa (tr.map intRow).length oc) (id := 9024) (aty := 3) (sz := 1) (rows := tr.map intRow) (I := InnI 3 1 xs) (I' := InnO 3 1 xs i) (take_at hxi) ?_; (conv => whnf); refine ⟨(by (conv => whnf);                                                                                                                                                                                                       exact go_loadEl (i := i) rfl rfl rfl (outS_at hxi) rfl), rfl, rfl, rfl, ?_⟩; conv => whnf) | (refine go_exactP tyOk (s := 40) (id := rid 5 38 0) (id' := 6000) (ty := 3) (sz := 1) (rows := tr.map intRow) (rows2 := (tr.take k).map intRow) rfl rfl htk htl (List.all_eq_true.2 (int_gr _)) rfl ?_; intro o1 c1'; conv => whnf) | (refine ret_boxCell (bid := nid 1 4) (j := 0) (id := 3004) (id' := 8000) (ty := 3) (sz := 1) (rows := d.sizes.map intRow) rfl rfl rfl rfl (List.all_eq_true.2 (int_gr _)) rfl ?_; intro o2 c2'; conv => whnf) | (refine ret_boxCell (bid := nid 1 4) (j := 1) (id := 3003) (id' := 8001) (ty := 24) (sz := 1) (rows := outS (xs.set i (.slice o1 ((tr.take k).map intRow).length c1', (tr.take k).map intRow))) rfl rfl rfl (by simp [outS]) (outS_gr _) rfl ?_; intro o3 c3'; conv => whnf) | (refine ret_join (id1 := rid 5 38 1) (id2 := 6000) (id3 := 8002) (I3 := InnI 3 1 (xs.set i (.slice o1 ((tr.take k).map intRow).length c1', (tr.take k).map intRow))) rfl rfl rfl rfl put_at ?_; conv => whnf) | (refine ret_join (id1 := 8001) (id2 := 8002) (id3 := 8003) (I3 := LstI (d.tracks.set i (tr.take k)) (.slice o3 (outS (xs.set i (.slice o1 ((tr.take k).map intRow).length c1', (tr.take k).map intRow))).length c3')) rfl rfl rfl rfl (lst_join (hx.set rfl)) ?_; conv => whnf) | (refine ret_join (id1 := 8000) (id2 := 8003) (id3 := 8004) (I3 := DepV ⟨d.sizes, d.tracks.set i (tr.take k)⟩ (.agg #[.slice o2 (d.sizes.map intRow).length c2', .slice o3 (outS (xs.set i (.slice o1 ((tr.take k).map intRow).length c1', (tr.take k).map intRow))).length c3'])) rfl rfl rfl rfl (dep_join (d := ⟨d.sizes, d.tracks.set i (tr.take k)⟩)) ?_; conv => whnf) | (refine ret_plainBox (bid := nid 1 4) (id := 8004) (ds := [.other (.slice o2 (d.sizes.map intRow).length c2'), .other (.slice o3 (outS (xs.set i (.slice o1 ((tr.take k).map intRow).length c1', (tr.take k).map intRow))).length c3')]) (ds' := Depot.enc ⟨d.sizes, d.tracks.set i (tr.take k)⟩) rfl rfl dep_plain ?_; conv => whnf) | refine go_seq ?_ | refine go_region ?_ | refine go_miss rfl rfl rfl ?_ | refine go_undef rfl rfl rfl ?_ | refine go_draw drawsOk ?_ | ((first | refine go_op rfl ?_ | refine go_nil ?_ | refine go_hit rfl rfl rfl ?_ | refine go_splitT rfl rfl rfl (fun h => ?_) (fun h => ?_) | refine go_splitF rfl rfl rfl (fun h => ?_) (fun h => ?_) | refine go_storeBox rfl rfl rfl rfl rfl rfl ?_ | refine go_dop rfl ?_ | refine go_dhit rfl rfl ?_ | refine go_dmiss rfl rfl ?_ | refine go_dundef rfl rfl ?_ | refine go_dend (by kernel_rfl) ?_ | refine go_pickT rfl ?_ | refine go_pickF rfl ?_ | refine go_pick rfl (fun h => ?_) (fun h => ?_) | refine Two.mk ?_ trivial | refine Two.mk ?_ ?_ | refine go_call [] (hT) rfl rfl rfl rfl ?_ | refine go_sliceTo (k := k) rfl rfl rfl rfl rfl rfl hkl ?_ | refine go_storeRow rfl rfl rfl rfl (outS_at hxi) rfl rfl (outS_set (v := .slice o1 ((tr.take k).map intRow).length c1') (r := (tr.take k).map intRow)) ?_ | refine go_idxOwnI (j := i) rfl rfl hij rfl rfl rfl rfl hil ?_ | refine go_loadEl (i := i) rfl rfl rfl (outS_at hxi) ?_ | refine go_idx rfl rfl rfl rfl (by omega) hr1 rfl ?_ | refine go_idx rfl rfl rfl rfl (by omega) hr2 rfl ?_) <;> conv => whnf) | ((first | refine Or.inl ?_ | refine go_dsplit2 rfl (fun h => ?_) (fun h => ?_) | refine go_loadB ?_ | refine ⟨by kernel_rfl, ?_⟩ | refine go_ret ?_) <;> conv => whnf) | refine go_block ?_ | ((first | refine go_skip ?_ | refine go_exit ?_) <;> conv => whnf) | refine go_true rfl ?_ | refine go_false rfl ?_ | refine go_cond rfl (fun h => ?_) (fun h => ?_) | refine ⟨rfl, ?_⟩ | ((first | refine ⟨trivial, ?_⟩ | refine ⟨le_of_ble rfl, ?_⟩) <;> conv => whnf) | fail
  all_goals first
    | exact ret_all rfl ⟨⟨rfl, fun h => by cases h⟩, ⟨rfl, fun h => by cases h⟩, trivial⟩ List.nodup_nil List.nodup_nil trivial
    | (exfalso; rw [hw1] at h; simp at h; omega)
    | (exfalso; simp at h; done)
    | (exfalso; simp at h; omega)
    | (exfalso; simp only [decide_eq_true_eq, decide_eq_false_iff_not, List.length_map] at *; omega)
    | (exfalso; simp_all; done)
    | trace_state

theorem c7 (d : Depot) (hf : d.fit) (v t : Int) : CallOk Try.prog 7 [.imm (.agg d.enc), .imm (.int .i64 v), .imm (.int .i64 t)] { res := [.imm (.agg (opD (pkD d v t)).enc), .imm (.bool (opB (pkD d v t)))], sep := false } := by
  refine callOk_of tyOk Try.func7 rfl rfl (le_of_ble rfl) (le_of_ble rfl) (mutOk_imm rfl _) ?_
  have hV := c24 d hf
  unfold pkD
  cases hok : depOk d with
  | false =>
    rw [hok] at hV
    rw [if_neg (by simp)]
    repeat' first | refine go_seq ?_ | refine go_region ?_ | ((first | refine go_op rfl ?_ | refine go_nil ?_ | refine go_storeBox rfl rfl rfl rfl rfl rfl ?_ | refine go_call [] (hV) rfl rfl rfl rfl ?_) <;> conv => whnf) | ((first | refine Or.inl ?_ | refine go_loadB ?_ | refine ⟨by kernel_rfl, ?_⟩ | refine go_ret ?_) <;> conv => whnf) | ((first | refine go_skip ?_) <;> conv => whnf) | refine go_true rfl ?_ | refine go_false rfl ?_ | refine go_cond rfl (fun h => ?_) (fun h => ?_) | refine ⟨rfl, ?_⟩ | ((first | refine ⟨trivial, ?_⟩ | refine ⟨le_of_ble rfl, ?_⟩) <;> conv => whnf) | fail
    all_goals first
      | exact ret_all rfl ⟨⟨rfl, fun h => by cases h⟩, ⟨rfl, fun h => by cases h⟩, trivial⟩ List.nodup_nil List.nodup_nil trivial
      | (exfalso; simp at h; done)
      | (exfalso; simp at h; omega)
      | (exfalso; simp only [decide_eq_true_eq, decide_eq_false_iff_not, List.length_map] at *; omega)
      | (exfalso; simp_all; done)
      | trace_state
  | true =>
    rw [hok] at hV
    rw [if_pos rfl]
    have hP := c25 d hf hok v t
    cases hp : parkD d v t with
    | none =>
      rw [hp] at hP
      have hP : CallOk Try.prog 25 [.imm (.agg d.enc), .imm (.int .i64 v), .imm (.int .i64 t)] { res := [.imm (.agg d.enc), .imm (.bool false)], sep := false } := hP
      repeat' first | refine go_seq ?_ | refine go_region ?_ | ((first | refine go_op rfl ?_ | refine go_nil ?_ | refine go_storeBox rfl rfl rfl rfl rfl rfl ?_ | refine go_call [] (hV) rfl rfl rfl rfl ?_ | refine go_call [] (hP) rfl rfl rfl rfl ?_) <;> conv => whnf) | ((first | refine Or.inl ?_ | refine go_loadB ?_ | refine ⟨by kernel_rfl, ?_⟩ | refine go_ret ?_) <;> conv => whnf) | ((first | refine go_skip ?_) <;> conv => whnf) | refine go_true rfl ?_ | refine go_false rfl ?_ | refine go_cond rfl (fun h => ?_) (fun h => ?_) | refine ⟨rfl, ?_⟩ | ((first | refine ⟨trivial, ?_⟩ | refine ⟨le_of_ble rfl, ?_⟩) <;> conv => whnf) | fail
      all_goals first
        | exact ret_all rfl ⟨⟨rfl, fun h => by cases h⟩, ⟨rfl, fun h => by cases h⟩, trivial⟩ List.nodup_nil List.nodup_nil trivial
        | (exfalso; simp at h; done)
        | (exfalso; simp at h; omega)
        | (exfalso; simp only [decide_eq_true_eq, decide_eq_false_iff_not, List.length_map] at *; omega)
        | (exfalso; simp_all; done)
        | trace_state
    | some p =>
      rw [hp] at hP
      have hP : CallOk Try.prog 25 [.imm (.agg d.enc), .imm (.int .i64 v), .imm (.int .i64 t)] { res := [.imm (.agg p.enc), .imm (.bool true)], sep := false } := hP
      repeat' first | refine go_seq ?_ | refine go_region ?_ | ((first | refine go_op rfl ?_ | refine go_nil ?_ | refine go_storeBox rfl rfl rfl rfl rfl rfl ?_ | refine go_call [] (hV) rfl rfl rfl rfl ?_ | refine go_call [] (hP) rfl rfl rfl rfl ?_) <;> conv => whnf) | ((first | refine Or.inl ?_ | refine go_loadB ?_ | refine ⟨by kernel_rfl, ?_⟩ | refine go_ret ?_) <;> conv => whnf) | ((first | refine go_skip ?_) <;> conv => whnf) | refine go_true rfl ?_ | refine go_false rfl ?_ | refine go_cond rfl (fun h => ?_) (fun h => ?_) | refine ⟨rfl, ?_⟩ | ((first | refine ⟨trivial, ?_⟩ | refine ⟨le_of_ble rfl, ?_⟩) <;> conv => whnf) | fail
      all_goals first
        | exact ret_all rfl ⟨⟨rfl, fun h => by cases h⟩, ⟨rfl, fun h => by cases h⟩, trivial⟩ List.nodup_nil List.nodup_nil trivial
        | (exfalso; simp at h; done)
        | (exfalso; simp at h; omega)
        | (exfalso; simp only [decide_eq_true_eq, decide_eq_false_iff_not, List.length_map] at *; omega)
        | (exfalso; simp_all; done)
        | trace_state

theorem c14 (d : Depot) (hf : d.fit) (v : Int) : CallOk Try.prog 14 [.imm (.agg d.enc), .imm (.int .i64 v)] { res := [.imm (.agg (opD (tkD d v)).enc), .imm (.bool (opB (tkD d v)))], sep := false } := by
  refine callOk_of tyOk Try.func14 rfl rfl (le_of_ble rfl) (le_of_ble rfl) (mutOk_imm rfl _) ?_
  have hV := c24 d hf
  unfold tkD
  cases hok : depOk d with
  | false =>
    rw [hok] at hV
    rw [if_neg (by simp)]
    repeat' first | refine go_seq ?_ | refine go_region ?_ | ((first | refine go_op rfl ?_ | refine go_nil ?_ | refine go_storeBox rfl rfl rfl rfl rfl rfl ?_ | refine go_call [] (hV) rfl rfl rfl rfl ?_) <;> conv => whnf) | ((first | refine Or.inl ?_ | refine go_loadB ?_ | refine ⟨by kernel_rfl, ?_⟩ | refine go_ret ?_) <;> conv => whnf) | ((first | refine go_skip ?_) <;> conv => whnf) | refine go_true rfl ?_ | refine go_false rfl ?_ | refine go_cond rfl (fun h => ?_) (fun h => ?_) | refine ⟨rfl, ?_⟩ | ((first | refine ⟨trivial, ?_⟩ | refine ⟨le_of_ble rfl, ?_⟩) <;> conv => whnf) | fail
    all_goals first
      | exact ret_all rfl ⟨⟨rfl, fun h => by cases h⟩, ⟨rfl, fun h => by cases h⟩, trivial⟩ List.nodup_nil List.nodup_nil trivial
      | (exfalso; simp at h; done)
      | (exfalso; simp at h; omega)
      | (exfalso; simp only [decide_eq_true_eq, decide_eq_false_iff_not, List.length_map] at *; omega)
      | (exfalso; simp_all; done)
      | trace_state
  | true =>
    rw [hok] at hV
    rw [if_pos rfl]
    have hP := c30 d hf v
    cases hp : takeD d v with
    | none =>
      rw [hp] at hP
      have hP : CallOk Try.prog 30 [.imm (.agg d.enc), .imm (.int .i64 v)] { res := [.imm (.agg d.enc), .imm (.bool false)], sep := false } := hP
      repeat' first | refine go_seq ?_ | refine go_region ?_ | ((first | refine go_op rfl ?_ | refine go_nil ?_ | refine go_storeBox rfl rfl rfl rfl rfl rfl ?_ | refine go_call [] (hV) rfl rfl rfl rfl ?_ | refine go_call [] (hP) rfl rfl rfl rfl ?_) <;> conv => whnf) | ((first | refine Or.inl ?_ | refine go_loadB ?_ | refine ⟨by kernel_rfl, ?_⟩ | refine go_ret ?_) <;> conv => whnf) | ((first | refine go_skip ?_) <;> conv => whnf) | refine go_true rfl ?_ | refine go_false rfl ?_ | refine go_cond rfl (fun h => ?_) (fun h => ?_) | refine ⟨rfl, ?_⟩ | ((first | refine ⟨trivial, ?_⟩ | refine ⟨le_of_ble rfl, ?_⟩) <;> conv => whnf) | fail
      all_goals first
        | exact ret_all rfl ⟨⟨rfl, fun h => by cases h⟩, ⟨rfl, fun h => by cases h⟩, trivial⟩ List.nodup_nil List.nodup_nil trivial
        | (exfalso; simp at h; done)
        | (exfalso; simp at h; omega)
        | (exfalso; simp only [decide_eq_true_eq, decide_eq_false_iff_not, List.length_map] at *; omega)
        | (exfalso; simp_all; done)
        | trace_state
    | some p =>
      rw [hp] at hP
      have hP : CallOk Try.prog 30 [.imm (.agg d.enc), .imm (.int .i64 v)] { res := [.imm (.agg p.enc), .imm (.bool true)], sep := false } := hP
      repeat' first | refine go_seq ?_ | refine go_region ?_ | ((first | refine go_op rfl ?_ | refine go_nil ?_ | refine go_storeBox rfl rfl rfl rfl rfl rfl ?_ | refine go_call [] (hV) rfl rfl rfl rfl ?_ | refine go_call [] (hP) rfl rfl rfl rfl ?_) <;> conv => whnf) | ((first | refine Or.inl ?_ | refine go_loadB ?_ | refine ⟨by kernel_rfl, ?_⟩ | refine go_ret ?_) <;> conv => whnf) | ((first | refine go_skip ?_) <;> conv => whnf) | refine go_true rfl ?_ | refine go_false rfl ?_ | refine go_cond rfl (fun h => ?_) (fun h => ?_) | refine ⟨rfl, ?_⟩ | ((first | refine ⟨trivial, ?_⟩ | refine ⟨le_of_ble rfl, ?_⟩) <;> conv => whnf) | fail
      all_goals first
        | exact ret_all rfl ⟨⟨rfl, fun h => by cases h⟩, ⟨rfl, fun h => by cases h⟩, trivial⟩ List.nodup_nil List.nodup_nil trivial
        | (exfalso; simp at h; done)
        | (exfalso; simp at h; omega)
        | (exfalso; simp only [decide_eq_true_eq, decide_eq_false_iff_not, List.length_map] at *; omega)
        | (exfalso; simp_all; done)
        | trace_state
end Go.Proofs.Ytkjigbbbobijnaa

