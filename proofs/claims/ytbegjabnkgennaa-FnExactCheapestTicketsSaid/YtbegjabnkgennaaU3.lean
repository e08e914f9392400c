/- The days of rides, and what each costs, on both sides. -/
import Derived.Test.YtbegjabnkgennaaU2
import Derived.Test.YtbegjabnkgennaaAmN
namespace Go.Am
open Go
theorem ret_arrarr {T : TypeId → Option TI} {fn : Func} {ins : List In} {r1 r2 : ResultVar} {id off len ty sz id2 off2 len2 ty2 sz2 : Nat} {rows rows' rows2 rows2' : List (List D)} {σ : S} (hr : fn.results.toList = [r1, r2]) (hm : mutIdx ins = []) (hp : σ.pm = []) (hv : retAV T σ r1 = .own id off len)
    (hmm : σ.m id = some (.arr ty sz rows')) (hd : (rows'.drop off).take len = rows) (hg : ∀ x ∈ rows, x.all D.gr = true) (hv2 : retAV T σ r2 = .own id2 off2 len2) (hmm2 : σ.m id2 = some (.arr ty2 sz2 rows2')) (hd2 : (rows2'.drop off2).take len2 = rows2) (hg2 : ∀ x ∈ rows2, x.all D.gr = true) (hne : Nat.beq id id2 = false) :
    retQ T fn ins { res := [.arr ty sz rows, .arr ty2 sz2 rows2] } .ret σ := by
  have hn : id ≠ id2 := fun e => by rw [e, Nat.beq_refl] at hne; cases hne
  refine ret_all (avs := [.own id off len, .own id2 off2 len2]) (by rw [hr]; simp only [List.map_cons, List.map_nil, hv, hv2]) ⟨ret1_arr hmm hd hg (by rw [hp]; simp), ret1_arr hmm2 hd2 hg2 (by rw [hp]; simp), trivial⟩ (by simp [ownIds, hn]) (by rw [hp]; exact List.nodup_nil) (by rw [hm, hp]; trivial)
end Go.Am
namespace Go.Proofs.Ytbegjabnkgennaa
open Go Go.Am
set_option maxRecDepth 100000
set_option maxHeartbeats 4000000
attribute [local irreducible] amOps amC opCall opIndexAddr opPick retQ opMake opStore amDraw opAppend opLoad opNilCmp opIndex opSlice

def dRows (g : List (Int × Int)) : List (List D) := (g.map (·.1)).map intRow
def cRows (g : List (Int × Int)) : List (List D) := (g.map (·.2)).map intRow
theorem dRows_len (g : List (Int × Int)) : (dRows g).length = g.length := by simp [dRows]
theorem cRows_len (g : List (Int × Int)) : (cRows g).length = g.length := by simp [cRows]
theorem dRows_app (g : List (Int × Int)) (x : Int × Int) : dRows (g ++ [x]) = dRows g ++ [[.int .i64 x.1]] := by simp [dRows, intRow]
theorem cRows_app (g : List (Int × Int)) (x : Int × Int) : cRows (g ++ [x]) = cRows g ++ [[.int .i64 x.2]] := by simp [cRows, intRow]
theorem dRows_at {g : List (Int × Int)} {i : Nat} {x : Int × Int} (h : g[i]? = some x) : (dRows g)[i]? = some [.int .i64 x.1] := by simp [dRows, h, intRow]
theorem cRows_at {g : List (Int × Int)} {i : Nat} {x : Int × Int} (h : g[i]? = some x) : (cRows g)[i]? = some [.int .i64 x.2] := by simp [cRows, h, intRow]
theorem dRows_set {g : List (Int × Int)} {i : Nat} {x : Int × Int} (h : g[i]? = some x) (c : Int) : dRows (g.set i (x.1, c)) = dRows g := by
  unfold dRows
  rw [List.map_set]
  congr 1
  refine List.ext_getElem? fun j => ?_
  rw [List.getElem?_set]
  split
  · rename_i e
    subst e
    have hl := (List.getElem?_eq_some_iff.1 h).1
    rw [if_pos (by simpa using hl)]
    simp [h]
  · rfl
theorem cRows_set (g : List (Int × Int)) (i : Nat) (x : Int × Int) : cRows (g.set i x) = (cRows g).set i [.int .i64 x.2] := by
  unfold cRows
  rw [List.map_set, List.map_set]
  rfl
theorem step_same {g : List (Int × Int)} {x y : Int × Int} {r : Ride} (h : g[g.length - 1]? = some y) (hd : y.1 = r.day) : dayStep g r = g.set (g.length - 1) (y.1, y.2 + r.fare) := by
  have hl := (List.getElem?_eq_some_iff.1 h).1
  have e : g.getD (g.length - 1) (0, 0) = y := by simp [List.getD_eq_getElem?_getD, h]
  unfold dayStep
  rw [e, if_pos ⟨by omega, hd⟩, hd]
theorem step_new {g : List (Int × Int)} {r : Ride} (h : ∀ y, g[g.length - 1]? = some y → y.1 ≠ r.day) : dayStep g r = g ++ [(r.day, r.fare)] := by
  unfold dayStep
  refine if_neg fun hc => ?_
  have hx : g[g.length - 1]? = some g[g.length - 1] := List.getElem?_eq_getElem (by omega)
  refine h _ hx ?_
  have hxd : g.getD (g.length - 1) (0, 0) = g[g.length - 1] := by simp [List.getD_eq_getElem?_getD, hx]
  rw [← hxd]
  exact hc.2

theorem c28 (p : Prices) (rs : List Ride) (hok : ridesOk rs = true) : CallOk Try.prog 28 [.imm (.agg p.enc), .imm (.list (rs.map Ride.enc))] { res := [.arr 3 1 (dRows (dayL rs)), .arr 3 1 ((capL p.day (dayL rs)).map intRow)] } := by
  refine callOk_of tyOk Try.func28 rfl rfl (le_of_ble rfl) (le_of_ble rfl) (mutOk_imm rfl _) ?_
  have hok' := hok
  unfold ridesOk at hok'
  simp only [Bool.and_eq_true, decide_eq_true_eq] at hok'
  obtain ⟨hall, hl20⟩ := hok'
  have hrl : ((rs.map Ride.enc).length : Int) = rs.length := by rw [List.length_map]
  repeat' first | refine go_seq ?_ | refine go_region ?_ | refine go_miss rfl rfl rfl ?_ | refine go_undef rfl rfl rfl ?_ | refine go_draw drawsOk ?_ | ((first | refine go_op rfl ?_ | refine go_nil ?_ | refine go_hit rfl rfl rfl ?_ | refine go_splitT rfl rfl rfl (fun h => ?_) (fun h => ?_) | refine go_splitF rfl rfl rfl (fun h => ?_) (fun h => ?_) | refine go_storeBox rfl rfl rfl rfl rfl rfl ?_ | refine go_dop rfl ?_ | refine go_dhit rfl rfl ?_ | refine go_dmiss rfl rfl ?_ | refine go_dundef rfl rfl ?_ | refine go_dend (by kernel_rfl) ?_ | refine go_pickT rfl ?_ | refine go_pickF rfl ?_ | refine go_pick rfl (fun h => ?_) (fun h => ?_)) <;> conv => whnf) | ((first | refine go_dsplit2 rfl (fun h => ?_) (fun h => ?_) | refine go_loadB ?_ | refine ⟨by kernel_rfl, ?_⟩ | refine go_ret ?_) <;> conv => whnf) | refine go_block ?_ | ((first | refine go_skip ?_ | refine go_exit ?_) <;> conv => whnf) | refine go_true rfl ?_ | refine go_false rfl ?_ | refine go_cond rfl (fun h => ?_) (fun h => ?_) | refine ⟨rfl, ?_⟩ | ((first | refine ⟨trivial, ?_⟩ | refine ⟨le_of_ble rfl, ?_⟩) <;> conv => whnf) | fail
  refine go_loop (α := Nat × List (Int × Int)) (fun q => q.1 ≤ rs.length ∧ q.2 = dayL (rs.take q.1)) (fun q => rs.length - q.1)
    (fun q => st Try.f28.ntmps [(2, .box 1002 0), (6, .own 1000 0 q.2.length), (7, .own 1001 0 q.2.length), (13, .imm (.list (rs.map Ride.enc))), (14, .imm (.int .i64 (rs.map Ride.enc).length)), (15, .imm (.int .i64 (q.1 : Nat)))]
      [(1000, .arr 3 1 (dRows q.2)), (1001, .arr 3 1 (cRows q.2)), (1002, .box 30 (p.enc.map .imm))] []) (0, []) ⟨Nat.zero_le _, rfl⟩
    (ref_st (fun y => if y = 1000 then nid 2 6 else if y = 1001 then nid 2 7 else nid 1 2) rfl ⟨⟨rfl, rfl⟩, ⟨rfl, rfl⟩, ⟨rfl, rfl⟩, rfl, rfl, rfl, trivial⟩ ⟨rfl, rfl, ⟨rfl, wavs_imm _⟩, trivial⟩ (by simp [nid]) rfl (by simp [lookM])) ?_
  rintro ⟨i, g⟩ ⟨hi, hg⟩
  simp only at hi hg
  have hD := days_all hall i hi
  rw [← hg] at hD
  have hdl := dRows_len g
  have hcl := cRows_len g
  have hgl := hD.len
  cases hx : rs[i]? with
  | none =>
    have hge := le_of_at hx
    rw [List.take_of_length_le hge] at hg
    rw [← hg]
    repeat' first | refine go_seq ?_ | refine go_region ?_ | refine go_miss rfl rfl rfl ?_ | refine go_undef rfl rfl rfl ?_ | refine go_draw drawsOk ?_ | ((first | refine go_op rfl ?_ | refine go_nil ?_ | refine go_hit rfl rfl rfl ?_ | refine go_splitT rfl rfl rfl (fun h => ?_) (fun h => ?_) | refine go_splitF rfl rfl rfl (fun h => ?_) (fun h => ?_) | refine go_storeBox rfl rfl rfl rfl rfl rfl ?_ | refine go_dop rfl ?_ | refine go_dhit rfl rfl ?_ | refine go_dmiss rfl rfl ?_ | refine go_dundef rfl rfl ?_ | refine go_dend (by kernel_rfl) ?_ | refine go_pickT rfl ?_ | refine go_pickF rfl ?_ | refine go_pick rfl (fun h => ?_) (fun h => ?_)) <;> conv => whnf) | ((first | refine go_dsplit2 rfl (fun h => ?_) (fun h => ?_) | refine go_loadB ?_ | refine ⟨by kernel_rfl, ?_⟩ | refine go_ret ?_) <;> conv => whnf) | refine go_block ?_ | ((first | refine go_skip ?_ | refine go_exit ?_) <;> conv => whnf) | refine go_true rfl ?_ | refine go_false rfl ?_ | refine go_cond rfl (fun h => ?_) (fun h => ?_) | refine ⟨rfl, ?_⟩ | ((first | refine ⟨trivial, ?_⟩ | refine ⟨le_of_ble rfl, ?_⟩) <;> conv => whnf) | fail
    all_goals try (exfalso; simp at h; omega)
    have hcap : (capL p.day g).length = (g.map (·.2)).length := by simp [capL]
    refine go_loop (α := Nat) (fun j => j ≤ g.length) (fun j => g.length - j)
      (fun j => st Try.f28.ntmps [(2, .box 1002 0), (6, .own 1000 0 g.length), (7, .own 1001 0 g.length), (52, .own 1001 0 g.length), (53, .imm (.int .i64 (g.length : Nat))), (54, .imm (.int .i64 (j : Nat)))]
        [(1000, .arr 3 1 (dRows g)), (1001, .arr 3 1 ((upto (capL p.day g) (g.map (·.2)) j).map intRow)), (1002, .box 30 (p.enc.map .imm))] []) 0 (Nat.zero_le _)
      (ref_st id rfl ⟨⟨rfl, rfl⟩, ⟨rfl, rfl⟩, ⟨rfl, rfl⟩, ⟨rfl, rfl⟩, rfl, rfl, trivial⟩ ⟨rfl, ?_, ⟨rfl, wavs_imm _⟩, trivial⟩ (by simp) rfl (by simp [lookM])) ?_
    · show some _ = some _
      rw [upto_0]; rfl
    intro j hj
    have hul := upto_len hcap j
    cases hy : g[j]? with
    | none =>
      have hgj := le_of_at hy
      have hue := upto_end hcap (i := j) (by simpa using hgj)
      repeat' first | refine go_seq ?_ | refine go_region ?_ | refine go_miss rfl rfl rfl ?_ | refine go_undef rfl rfl rfl ?_ | refine go_draw drawsOk ?_ | ((first | refine go_op rfl ?_ | refine go_nil ?_ | refine go_hit rfl rfl rfl ?_ | refine go_splitT rfl rfl rfl (fun h => ?_) (fun h => ?_) | refine go_splitF rfl rfl rfl (fun h => ?_) (fun h => ?_) | refine go_storeBox rfl rfl rfl rfl rfl rfl ?_ | refine go_dop rfl ?_ | refine go_dhit rfl rfl ?_ | refine go_dmiss rfl rfl ?_ | refine go_dundef rfl rfl ?_ | refine go_dend (by kernel_rfl) ?_ | refine go_pickT rfl ?_ | refine go_pickF rfl ?_ | refine go_pick rfl (fun h => ?_) (fun h => ?_)) <;> conv => whnf) | ((first | refine go_dsplit2 rfl (fun h => ?_) (fun h => ?_) | refine go_loadB ?_ | refine ⟨by kernel_rfl, ?_⟩ | refine go_ret ?_) <;> conv => whnf) | refine go_block ?_ | ((first | refine go_skip ?_ | refine go_exit ?_) <;> conv => whnf) | refine go_true rfl ?_ | refine go_false rfl ?_ | refine go_cond rfl (fun h => ?_) (fun h => ?_) | refine ⟨rfl, ?_⟩ | ((first | refine ⟨trivial, ?_⟩ | refine ⟨le_of_ble rfl, ?_⟩) <;> conv => whnf) | fail
      all_goals first
        | (refine ret_arrarr rfl rfl rfl rfl rfl ?_ (int_gr _) rfl rfl ?_ (int_gr _) rfl
           · rw [← hdl, List.drop_zero, List.take_length]
           · rw [hue, List.drop_zero]
             refine List.take_of_length_le ?_
             simp [capL]
           done)
        | (exfalso; simp at h; omega)
        | trace_state
    | some y =>
      have hjl := lt_of_at hy
      have hu2 : (g.map (·.2))[j]? = some y.2 := by simp [hy]
      have hc2 : (capL p.day g)[j]? = some (if p.day < y.2 then p.day else y.2) := by
        have e : (if y.2 < p.day then y.2 else p.day) = if p.day < y.2 then p.day else y.2 := by split <;> split <;> omega
        simp [capL, hy, e]
      have hat := upto_at hcap hu2
      have hrow : ((upto (capL p.day g) (g.map (·.2)) j).map intRow)[j]? = some (intRow y.2) := by simp [hat]
      have hset : ((upto (capL p.day g) (g.map (·.2)) j).map intRow).set j [.int .i64 (if p.day < y.2 then p.day else y.2)] = (upto (capL p.day g) (g.map (·.2)) (j + 1)).map intRow := by
        rw [← upto_set hcap hu2 hc2, List.map_set]; rfl
      repeat' first | refine go_seq ?_ | refine go_region ?_ | refine go_miss rfl rfl rfl ?_ | refine go_undef rfl rfl rfl ?_ | refine go_draw drawsOk ?_ | ((first | refine go_op rfl ?_ | refine go_nil ?_ | refine go_hit rfl rfl rfl ?_ | refine go_splitT rfl rfl rfl (fun h => ?_) (fun h => ?_) | refine go_splitF rfl rfl rfl (fun h => ?_) (fun h => ?_) | refine go_storeBox rfl rfl rfl rfl rfl rfl ?_ | refine go_dop rfl ?_ | refine go_dhit rfl rfl ?_ | refine go_dmiss rfl rfl ?_ | refine go_dundef rfl rfl ?_ | refine go_dend (by kernel_rfl) ?_ | refine go_pickT rfl ?_ | refine go_pickF rfl ?_ | refine go_pick rfl (fun h => ?_) (fun h => ?_) | refine go_idxOwn rfl rfl rfl rfl rfl rfl hjl ?_ | refine go_loadEl (i := j) rfl rfl rfl hrow ?_ | refine go_storeRow rfl rfl rfl rfl hrow rfl rfl hset ?_) <;> conv => whnf) | ((first | refine go_dsplit2 rfl (fun h => ?_) (fun h => ?_) | refine go_loadB ?_ | refine ⟨by kernel_rfl, ?_⟩ | refine go_ret ?_) <;> conv => whnf) | refine go_block ?_ | ((first | refine go_skip ?_ | refine go_exit ?_) <;> conv => whnf) | refine go_true rfl ?_ | refine go_false rfl ?_ | refine go_cond rfl (fun h => ?_) (fun h => ?_) | refine ⟨rfl, ?_⟩ | ((first | refine ⟨trivial, ?_⟩ | refine ⟨le_of_ble rfl, ?_⟩) <;> conv => whnf) | fail
      all_goals first
        | (refine go_next (j + 1) hjl (by omega) (ref_st id rfl ⟨⟨rfl, rfl⟩, ⟨rfl, rfl⟩, ⟨rfl, rfl⟩, ⟨rfl, rfl⟩, rfl, next_i (by omega), trivial⟩ ⟨rfl, rfl, ⟨rfl, wavs_imm _⟩, trivial⟩ (by simp) rfl (by simp [lookM]))
           done)
        | (exfalso; simp at h; omega)
        | trace_state
  | some x =>
    have hlt := lt_of_at hx
    have hrw := row_at Ride.enc hx
    have hok1 := allI_iff.1 hall _ _ hx
    have hf : 0 ≤ x.fare ∧ x.fare ≤ 10000 := by
      unfold rideAt at hok1
      simp only [Bool.and_eq_true, inR_iff] at hok1
      omega
    have hnx := dayL_next hx
    rw [← hg] at hnx
    have hone1 := int_one [x.day]
    have hone2 := int_one [x.fare]
    have hbd : g.length + 1 ≤ 1073741824 := by omega
    by_cases h0 : 0 < g.length
    case neg =>
      have hg0 : g = [] := List.eq_nil_of_length_eq_zero (by omega)
      have hst : dayStep g x = g ++ [(x.day, x.fare)] := step_new fun y hy => by rw [hg0] at hy; simp at hy
      have hw : IntKind.i64.wrap ((g.length : Int) - 1) = -1 := by rw [wrap_small (by omega) (by omega)]; omega
      rw [hst] at hnx
      repeat' first | refine go_seq ?_ | refine go_region ?_ | refine go_miss rfl rfl rfl ?_ | refine go_undef rfl rfl rfl ?_ | refine go_draw drawsOk ?_ | ((first | refine go_op rfl ?_ | refine go_nil ?_ | refine go_hit rfl rfl rfl ?_ | refine go_splitT rfl rfl rfl (fun h => ?_) (fun h => ?_) | refine go_splitF rfl rfl rfl (fun h => ?_) (fun h => ?_) | refine go_storeBox rfl rfl rfl rfl rfl rfl ?_ | refine go_dop rfl ?_ | refine go_dhit rfl rfl ?_ | refine go_dmiss rfl rfl ?_ | refine go_dundef rfl rfl ?_ | refine go_dend (by kernel_rfl) ?_ | refine go_pickT rfl ?_ | refine go_pickF rfl ?_ | refine go_pick rfl (fun h => ?_) (fun h => ?_) | refine go_idx rfl rfl rfl rfl (by omega) hrw rfl ?_ | refine go_append (rows2 := [x.day].map intRow) rfl rfl rfl rfl rfl rfl rfl rfl rfl rfl rfl rfl hone1 rfl hdl.symm rfl hbd ?_ | refine go_append (rows2 := [x.fare].map intRow) rfl rfl rfl rfl rfl rfl rfl rfl rfl rfl rfl rfl hone2 rfl hcl.symm rfl hbd ?_) <;> conv => whnf) | ((first | refine go_dsplit2 rfl (fun h => ?_) (fun h => ?_) | refine go_loadB ?_ | refine ⟨by kernel_rfl, ?_⟩ | refine go_ret ?_) <;> conv => whnf) | refine go_block ?_ | ((first | refine go_skip ?_ | refine go_exit ?_) <;> conv => whnf) | refine go_true rfl ?_ | refine go_false rfl ?_ | refine go_cond rfl (fun h => ?_) (fun h => ?_) | refine ⟨rfl, ?_⟩ | ((first | refine ⟨trivial, ?_⟩ | refine ⟨le_of_ble rfl, ?_⟩) <;> conv => whnf) | fail
      all_goals first
        | (refine go_next (i + 1, g ++ [(x.day, x.fare)]) ⟨by omega, hnx.symm⟩ (by show rs.length - (i + 1) < rs.length - i; omega) (ref_st (fun y => if y = 1000 then nid 6 45 else if y = 1001 then nid 6 50 else y) rfl ⟨⟨rfl, rfl⟩, ⟨?_, rfl⟩, ⟨?_, rfl⟩, rfl, rfl, next_i (i := i) (by omega), trivial⟩ ⟨?_, ?_, ⟨rfl, wavs_imm _⟩, trivial⟩ (by simp [nid]) rfl (by simp [lookM]))
           · show AV.own _ _ _ = AV.own _ _ _
             rw [List.length_append]; rfl
           · show AV.own _ _ _ = AV.own _ _ _
             rw [List.length_append]; rfl
           · show some _ = some _
             rw [dRows_app]; rfl
           · show some _ = some _
             rw [cRows_app]; rfl
           done)
        | (exfalso; simp at h; omega)
        | (exfalso; have h' := of_decide_eq_true h; omega)
        | trace_state
    case pos =>
      obtain ⟨y, hy⟩ : ∃ y, g[g.length - 1]? = some y := ⟨_, List.getElem?_eq_getElem (by omega)⟩
      have hw : IntKind.i64.wrap ((g.length : Int) - 1) = ((g.length - 1 : Nat) : Int) := by rw [wrap_small (by omega) (by omega)]; omega
      have hyl : g.length - 1 < g.length := by omega
      have hrd := dRows_at hy
      have hrc := cRows_at hy
      have hyf := hD.fare y (List.mem_of_getElem? hy)
      by_cases hsame : y.1 = x.day
      case pos =>
        have hst := step_same (x := y) hy hsame
        rw [hst] at hnx
        have hwf : IntKind.i64.wrap (y.2 + x.fare) = y.2 + x.fare := wrap_small (by omega) (by omega)
        have hset : (cRows g).set (g.length - 1) [.int .i64 (IntKind.i64.wrap (y.2 + x.fare))] = cRows (g.set (g.length - 1) (y.1, y.2 + x.fare)) := by rw [cRows_set, hwf]
        have hds := dRows_set hy (y.2 + x.fare)
        repeat' first | refine go_seq ?_ | refine go_region ?_ | refine go_miss rfl rfl rfl ?_ | refine go_undef rfl rfl rfl ?_ | refine go_draw drawsOk ?_ | ((first | refine go_op rfl ?_ | refine go_nil ?_ | refine go_hit rfl rfl rfl ?_ | refine go_splitT rfl rfl rfl (fun h => ?_) (fun h => ?_) | refine go_splitF rfl rfl rfl (fun h => ?_) (fun h => ?_) | refine go_storeBox rfl rfl rfl rfl rfl rfl ?_ | refine go_dop rfl ?_ | refine go_dhit rfl rfl ?_ | refine go_dmiss rfl rfl ?_ | refine go_dundef rfl rfl ?_ | refine go_dend (by kernel_rfl) ?_ | refine go_pickT rfl ?_ | refine go_pickF rfl ?_ | refine go_pick rfl (fun h => ?_) (fun h => ?_) | refine go_idx rfl rfl rfl rfl (by omega) hrw rfl ?_ | refine go_idxOwnI (j := g.length - 1) rfl rfl hw rfl rfl rfl rfl hyl ?_ | refine go_loadEl (i := g.length - 1) rfl rfl rfl hrd ?_ | refine go_loadEl (i := g.length - 1) rfl rfl rfl hrc ?_ | refine go_storeRow rfl rfl rfl rfl hrc rfl rfl hset ?_) <;> conv => whnf) | ((first | refine go_dsplit2 rfl (fun h => ?_) (fun h => ?_) | refine go_loadB ?_ | refine ⟨by kernel_rfl, ?_⟩ | refine go_ret ?_) <;> conv => whnf) | refine go_block ?_ | ((first | refine go_skip ?_ | refine go_exit ?_) <;> conv => whnf) | refine go_true rfl ?_ | refine go_false rfl ?_ | refine go_cond rfl (fun h => ?_) (fun h => ?_) | refine ⟨rfl, ?_⟩ | ((first | refine ⟨trivial, ?_⟩ | refine ⟨le_of_ble rfl, ?_⟩) <;> conv => whnf) | fail
        all_goals first
          | (refine go_next (i + 1, g.set (g.length - 1) (y.1, y.2 + x.fare)) ⟨by omega, hnx.symm⟩ (by show rs.length - (i + 1) < rs.length - i; omega) (ref_st id rfl ⟨⟨rfl, rfl⟩, ⟨?_, rfl⟩, ⟨?_, rfl⟩, rfl, rfl, next_i (i := i) (by omega), trivial⟩ ⟨?_, rfl, ⟨rfl, wavs_imm _⟩, trivial⟩ (by simp [nid]) rfl (by simp [lookM]))
             · show AV.own _ _ _ = AV.own _ _ _
               rw [List.length_set]; rfl
             · show AV.own _ _ _ = AV.own _ _ _
               rw [List.length_set]; rfl
             · show some _ = some _
               rw [hds]
             done)
          | (exfalso; simp at h; omega)
          | (exfalso; simp_all; done)
          | (exfalso; simp_all; omega)
          | trace_state
      case neg =>
        have hst : dayStep g x = g ++ [(x.day, x.fare)] := step_new fun z hz => by rw [hy] at hz; injection hz with hz; rw [← hz]; exact hsame
        rw [hst] at hnx
        repeat' first | refine go_seq ?_ | refine go_region ?_ | refine go_miss rfl rfl rfl ?_ | refine go_undef rfl rfl rfl ?_ | refine go_draw drawsOk ?_ | ((first | refine go_op rfl ?_ | refine go_nil ?_ | refine go_hit rfl rfl rfl ?_ | refine go_splitT rfl rfl rfl (fun h => ?_) (fun h => ?_) | refine go_splitF rfl rfl rfl (fun h => ?_) (fun h => ?_) | refine go_storeBox rfl rfl rfl rfl rfl rfl ?_ | refine go_dop rfl ?_ | refine go_dhit rfl rfl ?_ | refine go_dmiss rfl rfl ?_ | refine go_dundef rfl rfl ?_ | refine go_dend (by kernel_rfl) ?_ | refine go_pickT rfl ?_ | refine go_pickF rfl ?_ | refine go_pick rfl (fun h => ?_) (fun h => ?_) | refine go_idx rfl rfl rfl rfl (by omega) hrw rfl ?_ | refine go_idxOwnI (j := g.length - 1) rfl rfl hw rfl rfl rfl rfl hyl ?_ | refine go_loadEl (i := g.length - 1) rfl rfl rfl hrd ?_ | refine go_append (rows2 := [x.day].map intRow) rfl rfl rfl rfl rfl rfl rfl rfl rfl rfl rfl rfl hone1 rfl hdl.symm rfl hbd ?_ | refine go_append (rows2 := [x.fare].map intRow) rfl rfl rfl rfl rfl rfl rfl rfl rfl rfl rfl rfl hone2 rfl hcl.symm rfl hbd ?_) <;> conv => whnf) | ((first | refine go_dsplit2 rfl (fun h => ?_) (fun h => ?_) | refine go_loadB ?_ | refine ⟨by kernel_rfl, ?_⟩ | refine go_ret ?_) <;> conv => whnf) | refine go_block ?_ | ((first | refine go_skip ?_ | refine go_exit ?_) <;> conv => whnf) | refine go_true rfl ?_ | refine go_false rfl ?_ | refine go_cond rfl (fun h => ?_) (fun h => ?_) | refine ⟨rfl, ?_⟩ | ((first | refine ⟨trivial, ?_⟩ | refine ⟨le_of_ble rfl, ?_⟩) <;> conv => whnf) | fail
        all_goals first
          | (refine go_next (i + 1, g ++ [(x.day, x.fare)]) ⟨by omega, hnx.symm⟩ (by show rs.length - (i + 1) < rs.length - i; omega) (ref_st (fun y => if y = 1000 then nid 6 45 else if y = 1001 then nid 6 50 else y) rfl ⟨⟨rfl, rfl⟩, ⟨?_, rfl⟩, ⟨?_, rfl⟩, rfl, rfl, next_i (i := i) (by omega), trivial⟩ ⟨?_, ?_, ⟨rfl, wavs_imm _⟩, trivial⟩ (by simp [nid]) rfl (by simp [lookM]))
             · show AV.own _ _ _ = AV.own _ _ _
               rw [List.length_append]; rfl
             · show AV.own _ _ _ = AV.own _ _ _
               rw [List.length_append]; rfl
             · show some _ = some _
               rw [dRows_app]; rfl
             · show some _ = some _
               rw [cRows_app]; rfl
             done)
          | (exfalso; simp at h; omega)
          | (exfalso; simp_all; done)
          | (exfalso; simp_all; omega)
          | trace_state
end Go.Proofs.Ytbegjabnkgennaa

