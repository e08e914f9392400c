/- The walks of the reference's rounds, of times and of stops. -/
import Derived.Test.YteoiohkdhdpkoaaG3
namespace Go.Proofs.Yteoiohkdhdpkoaa
open Go Go.Am
set_option maxRecDepth 100000
set_option maxHeartbeats 16000000
attribute [local irreducible] amOps amC opCall opIndexAddr opPick retQ opMake opStore amDraw opAppend opLoad opNilCmp opIndex opSlice xQ

theorem c17 (n : Network) (f : Nat) (hf : n.fit) (hok : ∀ l ∈ n.lines, LnOk n.stops.length l) (hN : n.stops.length ≤ 1000) (hfN : f < n.stops.length) :
    CallOk Try.prog 17 [.imm (.agg n.enc), .imm (.int .i64 (f : Int))] { res := [.imm (.list ((ridS n.lines n.stops.length f).map intRow))] } := by
  refine callOk_of tyOk Try.func17 rfl rfl (le_of_ble rfl) (le_of_ble rfl) (mutOk_imm rfl _) ?_
  obtain ⟨_, _, f3, f4⟩ := hf
  have es : (n.stops.map strRow).length = n.stops.length := List.length_map _
  have el : (n.lines.map Line.enc).length = n.lines.length := List.length_map _
  have hinv := fun (k : Nat) (hk : k ≤ n.stops.length) => spk_inv (ls := n.lines) (f := f) (N := n.stops.length) hok (by omega) hfN hk
  unfold ridS
  have hF0 : o0 n.stops.length f = (List.replicate n.stops.length (-1)).set f 0 := rfl
  generalize o0 n.stops.length f = B0 at *
  repeat' first | refine go_seq ?_ | refine go_region ?_ | refine go_miss rfl rfl rfl ?_ | refine go_undef rfl rfl rfl ?_ | ((first | refine go_op rfl ?_ | refine go_nil ?_ | refine go_hit rfl rfl rfl ?_ | refine go_splitT rfl rfl rfl (fun h => ?_) (fun h => ?_) | refine go_splitF rfl rfl rfl (fun h => ?_) (fun h => ?_) | refine go_storeBox rfl rfl rfl rfl rfl rfl ?_ | refine go_pickT rfl ?_ | refine go_pickF rfl ?_ | refine go_pick rfl (fun h => ?_) (fun h => ?_) | refine go_makeN rfl rfl rfl rfl rfl rfl rfl rfl rfl (by omega) (by simp; omega) ?_) <;> conv => whnf) | ((first | refine go_loadB ?_ | refine ⟨by kernel_rfl, ?_⟩ | refine go_ret ?_) <;> conv => whnf) | refine go_block ?_ | ((first | refine go_skip ?_ | refine go_exit ?_) <;> conv => whnf) | refine go_true rfl ?_ | refine go_false rfl ?_ | refine go_cond rfl (fun h => ?_) (fun h => ?_) | refine ⟨rfl, ?_⟩ | ((first | refine ⟨trivial, ?_⟩ | refine ⟨le_of_ble rfl, ?_⟩) <;> conv => whnf) | fail
  refine go_loop (α := Nat) (fun i => i ≤ n.stops.length) (fun i => n.stops.length - i)
    (fun i => st Try.f17.ntmps [(1, .imm (.int .i64 (f : Int))), (2, .box 1000 0), (5, .own 1001 0 (n.stops.map strRow).length), (6, .imm (.int .i64 (i : Nat)))]
      [(1000, .box 27 (n.enc.map .imm)), (1001, .arr 3 1 ((fI n.stops.length i).map intRow))] []) 0 (Nat.zero_le _) ?_ ?_
  · refine ref_st (fun y => if y = 1000 then nid 1 2 else nid 2 15) rfl ⟨rfl, ⟨rfl, rfl⟩, ⟨rfl, rfl⟩, rfl, trivial⟩ ⟨⟨rfl, wavs_imm _⟩, ?_, trivial⟩ (by simp [nid]) rfl (by simp)
    show some _ = some _
    simp [fI]
    exact ⟨rfl, .inr rfl⟩
  intro i hi
  have hln := fI_len hi
  by_cases hlt : i < n.stops.length
  · have hil : i < (n.stops.map strRow).length := by omega
    have hrow : ((fI n.stops.length i).map intRow)[i]? = some [.int .i64 0] := row_at intRow (fI_at hlt)
    have hset : ((fI n.stops.length i).map intRow).set i [.int .i64 (-1)] = (fI n.stops.length (i + 1)).map intRow := by rw [rows_set, fI_set hlt]
    repeat' first | refine go_seq ?_ | refine go_region ?_ | refine go_miss rfl rfl rfl ?_ | refine go_undef rfl rfl rfl ?_ | ((first | refine go_op rfl ?_ | refine go_nil ?_ | refine go_hit rfl rfl rfl ?_ | refine go_splitT rfl rfl rfl (fun h => ?_) (fun h => ?_) | refine go_splitF rfl rfl rfl (fun h => ?_) (fun h => ?_) | refine go_storeBox rfl rfl rfl rfl rfl rfl ?_ | refine go_pickT rfl ?_ | refine go_pickF rfl ?_ | refine go_pick rfl (fun h => ?_) (fun h => ?_) | refine go_idxOwnI (j := i) rfl rfl rfl rfl rfl rfl rfl hil ?_ | refine go_storeRow rfl rfl rfl rfl hrow rfl rfl hset ?_) <;> conv => whnf) | ((first | refine go_loadB ?_ | refine ⟨by kernel_rfl, ?_⟩ | refine go_ret ?_) <;> conv => whnf) | refine go_block ?_ | ((first | refine go_skip ?_ | refine go_exit ?_) <;> conv => whnf) | refine go_true rfl ?_ | refine go_false rfl ?_ | refine go_cond rfl (fun h => ?_) (fun h => ?_) | refine ⟨rfl, ?_⟩ | ((first | refine ⟨trivial, ?_⟩ | refine ⟨le_of_ble rfl, ?_⟩) <;> conv => whnf) | fail
    all_goals first
      | exact go_next (i + 1) (by show i + 1 ≤ _; omega) (by show _ - (i + 1) < _ - i; omega) (ref_st id rfl ⟨rfl, ⟨rfl, rfl⟩, ⟨rfl, rfl⟩, next_i (by omega), trivial⟩ ⟨⟨rfl, wavs_imm _⟩, rfl, trivial⟩ (by simp) rfl (by simp))
      | (exfalso; simp only [decide_eq_false_iff_not] at *; omega)
      | trace_state
  · have hie : i = n.stops.length := by omega
    subst hie
    have hil : f < (n.stops.map strRow).length := by omega
    have hrow : ((fI n.stops.length n.stops.length).map intRow)[f]? = some [.int .i64 (-1)] := by rw [fI_N]; exact row_at intRow (by rw [List.getElem?_replicate, if_pos hfN])
    have hset : ((fI n.stops.length n.stops.length).map intRow).set f [.int .i64 0] = B0.map intRow := by rw [rows_set, hF0, fI_N]
    repeat' first | refine go_seq ?_ | refine go_region ?_ | refine go_miss rfl rfl rfl ?_ | refine go_undef rfl rfl rfl ?_ | ((first | refine go_op rfl ?_ | refine go_nil ?_ | refine go_hit rfl rfl rfl ?_ | refine go_splitT rfl rfl rfl (fun h => ?_) (fun h => ?_) | refine go_splitF rfl rfl rfl (fun h => ?_) (fun h => ?_) | refine go_storeBox rfl rfl rfl rfl rfl rfl ?_ | refine go_pickT rfl ?_ | refine go_pickF rfl ?_ | refine go_pick rfl (fun h => ?_) (fun h => ?_) | refine go_idxOwnI (j := f) rfl rfl rfl rfl rfl rfl rfl hil ?_ | refine go_storeRow rfl rfl rfl rfl hrow rfl rfl hset ?_) <;> conv => whnf) | ((first | refine go_loadB ?_ | refine ⟨by kernel_rfl, ?_⟩ | refine go_ret ?_) <;> conv => whnf) | refine go_block ?_ | ((first | refine go_skip ?_ | refine go_exit ?_) <;> conv => whnf) | refine go_true rfl ?_ | refine go_false rfl ?_ | refine go_cond rfl (fun h => ?_) (fun h => ?_) | refine ⟨rfl, ?_⟩ | ((first | refine ⟨trivial, ?_⟩ | refine ⟨le_of_ble rfl, ?_⟩) <;> conv => whnf) | fail
    all_goals first
      | (exfalso; simp only [decide_eq_true_eq] at *; omega)
      | skip
    refine go_loop (α := Nat) (fun r => r ≤ n.stops.length) (fun r => n.stops.length - r)
      (fun r => st Try.f17.ntmps [(2, .box 1000 0), (5, .own 1001 0 (n.stops.map strRow).length), (7, .imm (.int .i64 ((r + 1 : Nat) : Int)))]
        [(1000, .box 27 (n.enc.map .imm)), (1001, .arr 3 1 ((spk n.lines B0 r).map intRow))] []) 0 (Nat.zero_le _) ?_ ?_
    · exact ref_st id rfl ⟨⟨rfl, rfl⟩, ⟨rfl, rfl⟩, rfl, trivial⟩ ⟨⟨rfl, wavs_imm _⟩, rfl, trivial⟩ (by simp) rfl (by simp)
    intro r hr
    have hsv := hinv r hr
    by_cases hrl : r < n.stops.length
    · have hnext : spk n.lines B0 (r + 1) = rndS n.lines ((r + 1 : Nat) : Int) (spk n.lines B0 r) := rfl
      have hlr := hsv.len
      generalize spk n.lines B0 r = a at *
      repeat' first | refine go_seq ?_ | refine go_region ?_ | refine go_miss rfl rfl rfl ?_ | refine go_undef rfl rfl rfl ?_ | ((first | refine go_op rfl ?_ | refine go_nil ?_ | refine go_hit rfl rfl rfl ?_ | refine go_splitT rfl rfl rfl (fun h => ?_) (fun h => ?_) | refine go_splitF rfl rfl rfl (fun h => ?_) (fun h => ?_) | refine go_storeBox rfl rfl rfl rfl rfl rfl ?_ | refine go_pickT rfl ?_ | refine go_pickF rfl ?_ | refine go_pick rfl (fun h => ?_) (fun h => ?_)) <;> conv => whnf) | ((first | refine go_loadB ?_ | refine ⟨by kernel_rfl, ?_⟩ | refine go_ret ?_) <;> conv => whnf) | refine go_block ?_ | ((first | refine go_skip ?_ | refine go_exit ?_) <;> conv => whnf) | refine go_true rfl ?_ | refine go_false rfl ?_ | refine go_cond rfl (fun h => ?_) (fun h => ?_) | refine ⟨rfl, ?_⟩ | ((first | refine ⟨trivial, ?_⟩ | refine ⟨le_of_ble rfl, ?_⟩) <;> conv => whnf) | fail
      all_goals first
        | (exfalso; simp only [decide_eq_false_iff_not] at *; omega)
        | skip
      refine go_loop (α := Nat) (fun j => j ≤ n.lines.length) (fun j => n.lines.length - j)
        (fun j => st Try.f17.ntmps [(2, .box 1000 0), (5, .own 1001 0 (n.stops.map strRow).length), (7, .imm (.int .i64 ((r + 1 : Nat) : Int))), (8, .imm (.int .i64 (j : Nat)))]
          [(1000, .box 27 (n.enc.map .imm)), (1001, .arr 3 1 (((n.lines.take j).foldl (linS ((r + 1 : Nat) : Int)) a).map intRow))] []) 0 (Nat.zero_le _) ?_ ?_
      · exact ref_st id rfl ⟨⟨rfl, rfl⟩, ⟨rfl, rfl⟩, rfl, rfl, trivial⟩ ⟨⟨rfl, wavs_imm _⟩, rfl, trivial⟩ (by simp) rfl (by simp)
      intro j hj
      obtain ⟨hst, _⟩ := foldS_st (ls := n.lines) (k := ((r + 1 : Nat) : Int)) (by omega) (ms := n.lines.take j) (a := a) (fun l hl => ⟨List.mem_of_mem_take hl, by rw [hlr]; exact hok l (List.mem_of_mem_take hl)⟩)
      cases hx : n.lines[j]? with
      | none =>
        have hge := le_of_at hx
        rw [List.take_of_length_le hge] at hst ⊢
        have hw1 : AV.imm (.int .i64 (IntKind.i64.wrap (((r + 1 : Nat) : Int) + 1))) = .imm (.int .i64 ((r + 1 + 1 : Nat) : Int)) := by rw [wrap_small (by omega) (by omega)]; congr 2
        have e : spk n.lines B0 (r + 1) = n.lines.foldl (linS ((r + 1 : Nat) : Int)) a := hnext
        repeat' first | refine go_seq ?_ | refine go_region ?_ | refine go_miss rfl rfl rfl ?_ | refine go_undef rfl rfl rfl ?_ | ((first | refine go_op rfl ?_ | refine go_nil ?_ | refine go_hit rfl rfl rfl ?_ | refine go_splitT rfl rfl rfl (fun h => ?_) (fun h => ?_) | refine go_splitF rfl rfl rfl (fun h => ?_) (fun h => ?_) | refine go_storeBox rfl rfl rfl rfl rfl rfl ?_ | refine go_pickT rfl ?_ | refine go_pickF rfl ?_ | refine go_pick rfl (fun h => ?_) (fun h => ?_)) <;> conv => whnf) | ((first | refine go_loadB ?_ | refine ⟨by kernel_rfl, ?_⟩ | refine go_ret ?_) <;> conv => whnf) | refine go_block ?_ | ((first | refine go_skip ?_ | refine go_exit ?_) <;> conv => whnf) | refine go_true rfl ?_ | refine go_false rfl ?_ | refine go_cond rfl (fun h => ?_) (fun h => ?_) | refine ⟨rfl, ?_⟩ | ((first | refine ⟨trivial, ?_⟩ | refine ⟨le_of_ble rfl, ?_⟩) <;> conv => whnf) | fail
        all_goals first
          | (exfalso; simp only [decide_eq_true_eq, List.length_map] at *; omega)
          | skip
        refine go_next (r + 1) (by show r + 1 ≤ _; omega) (by show _ - (r + 1) < _ - r; omega) (ref_st id rfl ⟨⟨rfl, rfl⟩, ⟨rfl, rfl⟩, hw1, trivial⟩ ⟨⟨rfl, wavs_imm _⟩, ?_, trivial⟩ (by simp) rfl (by simp))
        show some _ = some (O.arr _ _ ((spk n.lines B0 (r + 1)).map intRow))
        rw [e]
      | some l =>
        have hltj := lt_of_at hx
        have hlm := List.mem_of_getElem? hx
        have hrl' := row_at Line.enc hx
        have hfl := f4 l hlm
        have hln := hok l hlm
        have hfn := fold_next (g := linS ((r + 1 : Nat) : Int)) (b := a) hx
        generalize hbj : (n.lines.take j).foldl (linS ((r + 1 : Nat) : Int)) a = bj at *
        have hlb : bj.length = n.stops.length := by rw [hst.len, hlr]
        repeat' first | refine go_seq ?_ | refine go_region ?_ | refine go_miss rfl rfl rfl ?_ | refine go_undef rfl rfl rfl ?_ | ((first | refine go_op rfl ?_ | refine go_nil ?_ | refine go_hit rfl rfl rfl ?_ | refine go_splitT rfl rfl rfl (fun h => ?_) (fun h => ?_) | refine go_splitF rfl rfl rfl (fun h => ?_) (fun h => ?_) | refine go_storeBox rfl rfl rfl rfl rfl rfl ?_ | refine go_pickT rfl ?_ | refine go_pickF rfl ?_ | refine go_pick rfl (fun h => ?_) (fun h => ?_)) <;> conv => whnf) | ((first | refine go_loadB ?_ | refine ⟨by kernel_rfl, ?_⟩ | refine go_ret ?_) <;> conv => whnf) | refine go_block ?_ | ((first | refine go_skip ?_ | refine go_exit ?_) <;> conv => whnf) | refine go_true rfl ?_ | refine go_false rfl ?_ | refine go_cond rfl (fun h => ?_) (fun h => ?_) | refine ⟨rfl, ?_⟩ | ((first | refine ⟨trivial, ?_⟩ | refine ⟨le_of_ble rfl, ?_⟩) <;> conv => whnf) | fail
        all_goals first
          | (exfalso; simp only [decide_eq_false_iff_not, List.length_map] at *; omega)
          | skip
        refine go_loop (α := Nat) (fun i => i ≤ l.stops.length) (fun i => l.stops.length - i)
          (fun i => st Try.f17.ntmps [(2, .box 1000 0), (5, .own 1001 0 (n.stops.map strRow).length), (7, .imm (.int .i64 ((r + 1 : Nat) : Int))), (8, .imm (.int .i64 (j : Nat))), (9, .imm (.bool ((l.stops.take i).foldl (visS ((r + 1 : Nat) : Int)) (bj, false)).2)), (10, .imm (.int .i64 (i : Nat)))]
            [(1000, .box 27 (n.enc.map .imm)), (1001, .arr 3 1 (((l.stops.take i).foldl (visS ((r + 1 : Nat) : Int)) (bj, false)).1.map intRow))] []) 0 (Nat.zero_le _) ?_ ?_
        · exact ref_st id rfl ⟨⟨rfl, rfl⟩, ⟨rfl, rfl⟩, rfl, rfl, rfl, rfl, trivial⟩ ⟨⟨rfl, wavs_imm _⟩, rfl, trivial⟩ (by simp) rfl (by simp)
        intro i hi
        cases hy : l.stops[i]? with
        | none =>
          have hge := le_of_at hy
          rw [List.take_of_length_le hge]
          have e : (n.lines.take (j + 1)).foldl (linS ((r + 1 : Nat) : Int)) a = (l.stops.foldl (visS ((r + 1 : Nat) : Int)) (bj, false)).1 := by rw [hfn]; rfl
          repeat' first | refine go_seq ?_ | refine go_region ?_ | refine go_miss rfl rfl rfl ?_ | refine go_undef rfl rfl rfl ?_ | ((first | refine go_op rfl ?_ | refine go_nil ?_ | refine go_hit rfl rfl rfl ?_ | refine go_splitT rfl rfl rfl (fun h => ?_) (fun h => ?_) | refine go_splitF rfl rfl rfl (fun h => ?_) (fun h => ?_) | refine go_storeBox rfl rfl rfl rfl rfl rfl ?_ | refine go_pickT rfl ?_ | refine go_pickF rfl ?_ | refine go_pick rfl (fun h => ?_) (fun h => ?_) | refine go_idx rfl rfl rfl rfl (by omega) hrl' rfl ?_) <;> conv => whnf) | ((first | refine go_loadB ?_ | refine ⟨by kernel_rfl, ?_⟩ | refine go_ret ?_) <;> conv => whnf) | refine go_block ?_ | ((first | refine go_skip ?_ | refine go_exit ?_) <;> conv => whnf) | refine go_true rfl ?_ | refine go_false rfl ?_ | refine go_cond rfl (fun h => ?_) (fun h => ?_) | refine ⟨rfl, ?_⟩ | ((first | refine ⟨trivial, ?_⟩ | refine ⟨le_of_ble rfl, ?_⟩) <;> conv => whnf) | fail
          all_goals first
            | (exfalso; simp only [decide_eq_true_eq, List.length_map] at *; omega)
            | skip
          refine go_next (j + 1) (by show j + 1 ≤ _; omega) (by show _ - (j + 1) < _ - j; omega) (ref_st id rfl ⟨⟨rfl, rfl⟩, ⟨rfl, rfl⟩, rfl, next_i (by omega), trivial⟩ ⟨⟨rfl, wavs_imm _⟩, ?_, trivial⟩ (by simp) rfl (by simp))
          show some _ = some (O.arr _ _ (((n.lines.take (j + 1)).foldl (linS ((r + 1 : Nat) : Int)) a).map intRow))
          rw [e]
        | some y =>
          have hlti := lt_of_at hy
          have hsl := hfl.2.1
          have hry := row_at intRow hy
          obtain ⟨⟨hy0, hyN⟩, _⟩ := hln _ _ hy
          obtain ⟨hsv2, _, _⟩ := visS_st (ls := n.lines) (l := l) (k := ((r + 1 : Nat) : Int)) (a := bj) hlm (by rw [hlb]; exact hln) (by omega) hi
          have hcl := hsv2.len
          rw [hlb] at hcl
          have hfk := fold_next (g := visS ((r + 1 : Nat) : Int)) (b := (bj, false)) hy
          generalize (l.stops.take i).foldl (visS ((r + 1 : Nat) : Int)) (bj, false) = p at *
          obtain ⟨c, on⟩ := p
          simp only at hcl
          have hyI : y = ((y.toNat : Nat) : Int) := by omega
          have hrw := row_at intRow (oN_at (o := c) (k := y.toNat) (by omega))
          have hl1 : y.toNat < (n.stops.map strRow).length := by omega
          have hset : (c.map intRow).set y.toNat [.int .i64 ((r + 1 : Nat) : Int)] = (c.set y.toNat ((r + 1 : Nat) : Int)).map intRow := rows_set
          cases on with
          | true =>
            by_cases hneg : oN c y.toNat < 0
            · have hv : visS ((r + 1 : Nat) : Int) (c, true) y = (c.set y.toNat ((r + 1 : Nat) : Int), true) := by unfold visS; simp [hneg]
              have hf1 := congrArg Prod.fst (hfk.trans hv)
              have hf2 := congrArg Prod.snd (hfk.trans hv)
              simp only at hf1 hf2
              repeat' first | refine go_seq ?_ | refine go_region ?_ | refine go_miss rfl rfl rfl ?_ | refine go_undef rfl rfl rfl ?_ | ((first | refine go_op rfl ?_ | refine go_nil ?_ | refine go_hit rfl rfl rfl ?_ | refine go_splitT rfl rfl rfl (fun h => ?_) (fun h => ?_) | refine go_splitF rfl rfl rfl (fun h => ?_) (fun h => ?_) | refine go_storeBox rfl rfl rfl rfl rfl rfl ?_ | refine go_pickT rfl ?_ | refine go_pickF rfl ?_ | refine go_pick rfl (fun h => ?_) (fun h => ?_) | refine go_idx rfl rfl rfl rfl (by omega) hrl' rfl ?_ | refine go_idx rfl rfl rfl rfl (by omega) hry rfl ?_ | refine go_idxOwnI (j := y.toNat) rfl rfl hyI rfl rfl rfl rfl hl1 ?_ | refine go_loadEl (i := y.toNat) rfl rfl rfl hrw ?_ | refine go_storeRow rfl rfl rfl rfl hrw rfl rfl hset ?_) <;> conv => whnf) | ((first | refine go_loadB ?_ | refine ⟨by kernel_rfl, ?_⟩ | refine go_ret ?_) <;> conv => whnf) | refine go_block ?_ | ((first | refine go_skip ?_ | refine go_exit ?_) <;> conv => whnf) | refine go_true rfl ?_ | refine go_false rfl ?_ | refine go_cond rfl (fun h => ?_) (fun h => ?_) | refine ⟨rfl, ?_⟩ | ((first | refine ⟨trivial, ?_⟩ | refine ⟨le_of_ble rfl, ?_⟩) <;> conv => whnf) | fail
              all_goals first
                | (exfalso; simp only [decide_eq_true_eq, decide_eq_false_iff_not, List.length_map] at *; omega)
                | skip
              refine go_next (i + 1) (by show i + 1 ≤ _; omega) (by show _ - (i + 1) < _ - i; omega) (ref_st id rfl ⟨⟨rfl, rfl⟩, ⟨rfl, rfl⟩, rfl, rfl, ?_, next_i (by omega), trivial⟩ ⟨⟨rfl, wavs_imm _⟩, ?_, trivial⟩ (by simp) rfl (by simp))
              · show AV.imm _ = AV.imm (.bool ((l.stops.take (i + 1)).foldl (visS ((r + 1 : Nat) : Int)) (bj, false)).2)
                rw [hf2]
              · show some _ = some (O.arr _ _ (((l.stops.take (i + 1)).foldl (visS ((r + 1 : Nat) : Int)) (bj, false)).1.map intRow))
                rw [hf1]
            · have hv : visS ((r + 1 : Nat) : Int) (c, true) y = (c, true) := by unfold visS; simp [hneg]
              have hf1 := congrArg Prod.fst (hfk.trans hv)
              have hf2 := congrArg Prod.snd (hfk.trans hv)
              simp only at hf1 hf2
              repeat' first | refine go_seq ?_ | refine go_region ?_ | refine go_miss rfl rfl rfl ?_ | refine go_undef rfl rfl rfl ?_ | ((first | refine go_op rfl ?_ | refine go_nil ?_ | refine go_hit rfl rfl rfl ?_ | refine go_splitT rfl rfl rfl (fun h => ?_) (fun h => ?_) | refine go_splitF rfl rfl rfl (fun h => ?_) (fun h => ?_) | refine go_storeBox rfl rfl rfl rfl rfl rfl ?_ | refine go_pickT rfl ?_ | refine go_pickF rfl ?_ | refine go_pick rfl (fun h => ?_) (fun h => ?_) | refine go_idx rfl rfl rfl rfl (by omega) hrl' rfl ?_ | refine go_idx rfl rfl rfl rfl (by omega) hry rfl ?_ | refine go_idxOwnI (j := y.toNat) rfl rfl hyI rfl rfl rfl rfl hl1 ?_ | refine go_loadEl (i := y.toNat) rfl rfl rfl hrw ?_) <;> conv => whnf) | ((first | refine go_loadB ?_ | refine ⟨by kernel_rfl, ?_⟩ | refine go_ret ?_) <;> conv => whnf) | refine go_block ?_ | ((first | refine go_skip ?_ | refine go_exit ?_) <;> conv => whnf) | refine go_true rfl ?_ | refine go_false rfl ?_ | refine go_cond rfl (fun h => ?_) (fun h => ?_) | refine ⟨rfl, ?_⟩ | ((first | refine ⟨trivial, ?_⟩ | refine ⟨le_of_ble rfl, ?_⟩) <;> conv => whnf) | fail
              all_goals first
                | (exfalso; simp only [decide_eq_true_eq, decide_eq_false_iff_not, List.length_map] at *; omega)
                | skip
              refine go_next (i + 1) (by show i + 1 ≤ _; omega) (by show _ - (i + 1) < _ - i; omega) (ref_st id rfl ⟨⟨rfl, rfl⟩, ⟨rfl, rfl⟩, rfl, rfl, ?_, next_i (by omega), trivial⟩ ⟨⟨rfl, wavs_imm _⟩, ?_, trivial⟩ (by simp) rfl (by simp))
              · show AV.imm _ = AV.imm (.bool ((l.stops.take (i + 1)).foldl (visS ((r + 1 : Nat) : Int)) (bj, false)).2)
                rw [hf2]
              · show some _ = some (O.arr _ _ (((l.stops.take (i + 1)).foldl (visS ((r + 1 : Nat) : Int)) (bj, false)).1.map intRow))
                rw [hf1]
          | false =>
            have hv : visS ((r + 1 : Nat) : Int) (c, false) y = (c, decide (oN c y.toNat = IntKind.i64.wrap (((r + 1 : Nat) : Int) - 1))) := by unfold visS; simp
            have hf1 := congrArg Prod.fst (hfk.trans hv)
            have hf2 := congrArg Prod.snd (hfk.trans hv)
            simp only at hf1 hf2
            repeat' first | refine go_seq ?_ | refine go_region ?_ | refine go_miss rfl rfl rfl ?_ | refine go_undef rfl rfl rfl ?_ | ((first | refine go_op rfl ?_ | refine go_nil ?_ | refine go_hit rfl rfl rfl ?_ | refine go_splitT rfl rfl rfl (fun h => ?_) (fun h => ?_) | refine go_splitF rfl rfl rfl (fun h => ?_) (fun h => ?_) | refine go_storeBox rfl rfl rfl rfl rfl rfl ?_ | refine go_pickT rfl ?_ | refine go_pickF rfl ?_ | refine go_pick rfl (fun h => ?_) (fun h => ?_) | refine go_idx rfl rfl rfl rfl (by omega) hrl' rfl ?_ | refine go_idx rfl rfl rfl rfl (by omega) hry rfl ?_ | refine go_idxOwnI (j := y.toNat) rfl rfl hyI rfl rfl rfl rfl hl1 ?_ | refine go_loadEl (i := y.toNat) rfl rfl rfl hrw ?_) <;> conv => whnf) | ((first | refine go_loadB ?_ | refine ⟨by kernel_rfl, ?_⟩ | refine go_ret ?_) <;> conv => whnf) | refine go_block ?_ | ((first | refine go_skip ?_ | refine go_exit ?_) <;> conv => whnf) | refine go_true rfl ?_ | refine go_false rfl ?_ | refine go_cond rfl (fun h => ?_) (fun h => ?_) | refine ⟨rfl, ?_⟩ | ((first | refine ⟨trivial, ?_⟩ | refine ⟨le_of_ble rfl, ?_⟩) <;> conv => whnf) | fail
            all_goals first
              | (exfalso; simp only [decide_eq_true_eq, decide_eq_false_iff_not, List.length_map] at *; omega)
              | skip
            refine go_next (i + 1) (by show i + 1 ≤ _; omega) (by show _ - (i + 1) < _ - i; omega) (ref_st id rfl ⟨⟨rfl, rfl⟩, ⟨rfl, rfl⟩, rfl, rfl, ?_, next_i (by omega), trivial⟩ ⟨⟨rfl, wavs_imm _⟩, ?_, trivial⟩ (by simp) rfl (by simp))
            · show AV.imm _ = AV.imm (.bool ((l.stops.take (i + 1)).foldl (visS ((r + 1 : Nat) : Int)) (bj, false)).2)
              rw [hf2]
            · show some _ = some (O.arr _ _ (((l.stops.take (i + 1)).foldl (visS ((r + 1 : Nat) : Int)) (bj, false)).1.map intRow))
              rw [hf1]
    · have hre : r = n.stops.length := by omega
      subst hre
      repeat' first | refine go_seq ?_ | refine go_region ?_ | refine go_miss rfl rfl rfl ?_ | refine go_undef rfl rfl rfl ?_ | ((first | refine go_op rfl ?_ | refine go_nil ?_ | refine go_hit rfl rfl rfl ?_ | refine go_splitT rfl rfl rfl (fun h => ?_) (fun h => ?_) | refine go_splitF rfl rfl rfl (fun h => ?_) (fun h => ?_) | refine go_storeBox rfl rfl rfl rfl rfl rfl ?_ | refine go_pickT rfl ?_ | refine go_pickF rfl ?_ | refine go_pick rfl (fun h => ?_) (fun h => ?_)) <;> conv => whnf) | ((first | refine go_loadB ?_ | refine ⟨by kernel_rfl, ?_⟩ | refine go_ret ?_) <;> conv => whnf) | refine go_block ?_ | ((first | refine go_skip ?_ | refine go_exit ?_) <;> conv => whnf) | refine go_true rfl ?_ | refine go_false rfl ?_ | refine go_cond rfl (fun h => ?_) (fun h => ?_) | refine ⟨rfl, ?_⟩ | ((first | refine ⟨trivial, ?_⟩ | refine ⟨le_of_ble rfl, ?_⟩) <;> conv => whnf) | fail
      all_goals first
        | (exfalso; simp only [decide_eq_true_eq] at *; omega)
        | exact ret_own rfl rfl rfl rfl rfl (by first | rfl | (rw [List.drop_zero, List.take_of_length_le (by rw [List.length_map, hsv.len, es]; exact Nat.le_refl _)])) (int_gr _)
        | trace_state
end Go.Proofs.Yteoiohkdhdpkoaa

