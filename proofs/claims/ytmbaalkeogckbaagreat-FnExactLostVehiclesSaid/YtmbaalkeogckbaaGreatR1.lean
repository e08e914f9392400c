/- The walks of reports of vehicles and of whether they are valid. MADE BY PROGRAM (r1.py). -/
import Derived.Test.YtmbaalkeogckbaaGreatT4
import Derived.Test.YtmbaalkeogckbaaGreatR0
import Derived.Test.YtmbaalkeogckbaaGreatN6
namespace Go.Proofs.YtmbaalkeogckbaaGreat
open Go Go.Am
set_option maxRecDepth 100000
set_option maxHeartbeats 4000000
attribute [local irreducible] amOps amC opCall opIndexAddr opPick retQ opMake opStore amDraw opAppend opLoad opNilCmp opIndex opSlice

def lineForR (t : Timetable) (k : Int) : Option Line := t.net.lines[k.toNat]?
def longR (t : Timetable) (r : Report) : Int := match lineForR t r.line with | some l => totW l.runs | none => 0
def lineInR (t : Timetable) (r : Report) : Bool := inR r.line 0 ((t.net.lines.length : Int) - 1)
def repOk (t : Timetable) (r : Report) : Bool := inR r.vehicle 1 99 && (timeOk r.time && (lineInR t r && inR r.done 0 (longR t r)))
theorem line_atR {t : Timetable} {x : Report} (h : lineInR t x = true) : 0 ≤ x.line ∧ ∃ l, t.net.lines[x.line.toNat]? = some l ∧ (t.net.lines.map Line.enc)[x.line.toNat]? = some l.enc ∧ longR t x = totW l.runs := by
  have := (inR_iff _ _ _).1 h
  obtain ⟨l, hl⟩ : ∃ l, t.net.lines[x.line.toNat]? = some l := ⟨_, List.getElem?_eq_getElem (by omega)⟩
  exact ⟨this.1, l, hl, by rw [List.getElem?_map, hl]; rfl, by unfold longR lineForR; rw [hl]⟩

theorem c147 (t : Timetable) (hf : t.fit) (r : Report) : CallOk Tryz.prog 147 [.imm (.agg t.enc), .imm (.agg r.enc)] { res := [.imm (.bool (repOk t r))] } := by
  refine callOk_of tyOk Tryz.func147 rfl rfl (le_of_ble rfl) (le_of_ble rfl) (mutOk_imm rfl _) ?_
  have hc0 := c58 r.vehicle 1 99
  have hc1 := c57 r.time
  have hc2 := c139 t.net r.line
  rw [show inR r.line 0 ((t.net.lines.length : Int) - 1) = lineInR t r from rfl] at hc2
  unfold repOk
  cases b0 : inR r.vehicle 1 99 with
  | false =>
    rw [b0] at hc0
    repeat' first | refine go_seq ?_ | refine go_region ?_ | refine go_miss rfl rfl rfl ?_ | refine go_undef rfl rfl rfl ?_ | refine go_draw drawsOk ?_ | ((first | refine go_op rfl ?_ | refine go_nil ?_ | refine go_hit rfl rfl rfl ?_ | refine go_splitT rfl rfl rfl (fun h => ?_) (fun h => ?_) | refine go_splitF rfl rfl rfl (fun h => ?_) (fun h => ?_) | refine go_dop rfl ?_ | refine go_dhit rfl rfl ?_ | refine go_dmiss rfl rfl ?_ | refine go_dundef rfl rfl ?_ | refine go_dend (by kernel_rfl) ?_ | refine go_pickT rfl ?_ | refine go_pickF rfl ?_ | refine go_pick rfl (fun h => ?_) (fun h => ?_) | refine go_call [] (hc0) rfl rfl rfl rfl ?_) <;> conv => whnf) | ((first | refine go_dsplit2 rfl (fun h => ?_) (fun h => ?_) | refine go_loadB ?_ | refine ⟨by kernel_rfl, ?_⟩ | refine go_ret ?_) <;> conv => whnf) | ((first | refine go_skip ?_) <;> conv => whnf) | refine ⟨rfl, ?_⟩ | ((first | refine ⟨trivial, ?_⟩ | refine ⟨le_of_ble rfl, ?_⟩) <;> conv => whnf) | fail
    all_goals exact ret_imm rfl rfl rfl rfl rfl rfl
  | true =>
  rw [b0] at hc0
  cases b1 : timeOk r.time with
  | false =>
    rw [b1] at hc1
    repeat' first | refine go_seq ?_ | refine go_region ?_ | refine go_miss rfl rfl rfl ?_ | refine go_undef rfl rfl rfl ?_ | refine go_draw drawsOk ?_ | ((first | refine go_op rfl ?_ | refine go_nil ?_ | refine go_hit rfl rfl rfl ?_ | refine go_splitT rfl rfl rfl (fun h => ?_) (fun h => ?_) | refine go_splitF rfl rfl rfl (fun h => ?_) (fun h => ?_) | refine go_dop rfl ?_ | refine go_dhit rfl rfl ?_ | refine go_dmiss rfl rfl ?_ | refine go_dundef rfl rfl ?_ | refine go_dend (by kernel_rfl) ?_ | refine go_pickT rfl ?_ | refine go_pickF rfl ?_ | refine go_pick rfl (fun h => ?_) (fun h => ?_) | refine go_call [] (hc0) rfl rfl rfl rfl ?_ | refine go_call [] (hc1) rfl rfl rfl rfl ?_) <;> conv => whnf) | ((first | refine go_dsplit2 rfl (fun h => ?_) (fun h => ?_) | refine go_loadB ?_ | refine ⟨by kernel_rfl, ?_⟩ | refine go_ret ?_) <;> conv => whnf) | ((first | refine go_skip ?_) <;> conv => whnf) | refine ⟨rfl, ?_⟩ | ((first | refine ⟨trivial, ?_⟩ | refine ⟨le_of_ble rfl, ?_⟩) <;> conv => whnf) | fail
    all_goals exact ret_imm rfl rfl rfl rfl rfl rfl
  | true =>
  rw [b1] at hc1
  cases b2 : lineInR t r with
  | false =>
    rw [b2] at hc2
    repeat' first | refine go_seq ?_ | refine go_region ?_ | refine go_miss rfl rfl rfl ?_ | refine go_undef rfl rfl rfl ?_ | refine go_draw drawsOk ?_ | ((first | refine go_op rfl ?_ | refine go_nil ?_ | refine go_hit rfl rfl rfl ?_ | refine go_splitT rfl rfl rfl (fun h => ?_) (fun h => ?_) | refine go_splitF rfl rfl rfl (fun h => ?_) (fun h => ?_) | refine go_dop rfl ?_ | refine go_dhit rfl rfl ?_ | refine go_dmiss rfl rfl ?_ | refine go_dundef rfl rfl ?_ | refine go_dend (by kernel_rfl) ?_ | refine go_pickT rfl ?_ | refine go_pickF rfl ?_ | refine go_pick rfl (fun h => ?_) (fun h => ?_) | refine go_call [] (hc0) rfl rfl rfl rfl ?_ | refine go_call [] (hc1) rfl rfl rfl rfl ?_ | refine go_call [] (hc2) rfl rfl rfl rfl ?_) <;> conv => whnf) | ((first | refine go_dsplit2 rfl (fun h => ?_) (fun h => ?_) | refine go_loadB ?_ | refine ⟨by kernel_rfl, ?_⟩ | refine go_ret ?_) <;> conv => whnf) | ((first | refine go_skip ?_) <;> conv => whnf) | refine ⟨rfl, ?_⟩ | ((first | refine ⟨trivial, ?_⟩ | refine ⟨le_of_ble rfl, ?_⟩) <;> conv => whnf) | fail
    all_goals exact ret_imm rfl rfl rfl rfl rfl rfl
  | true =>
  rw [b2] at hc2
  obtain ⟨l0, l, l1, l2, l3⟩ := line_atR b2
  have hlf := hf.1.2.2.2 l (List.mem_of_getElem? l1)
  have hc3 := c99 l.runs hlf.2.2
  have hc4 := c58 r.done 0 (totW l.runs)
  rw [l3]
  repeat' first | refine go_seq ?_ | refine go_region ?_ | refine go_miss rfl rfl rfl ?_ | refine go_undef rfl rfl rfl ?_ | refine go_draw drawsOk ?_ | ((first | refine go_op rfl ?_ | refine go_nil ?_ | refine go_hit rfl rfl rfl ?_ | refine go_splitT rfl rfl rfl (fun h => ?_) (fun h => ?_) | refine go_splitF rfl rfl rfl (fun h => ?_) (fun h => ?_) | refine go_dop rfl ?_ | refine go_dhit rfl rfl ?_ | refine go_dmiss rfl rfl ?_ | refine go_dundef rfl rfl ?_ | refine go_dend (by kernel_rfl) ?_ | refine go_pickT rfl ?_ | refine go_pickF rfl ?_ | refine go_pick rfl (fun h => ?_) (fun h => ?_) | refine go_call [] (hc0) rfl rfl rfl rfl ?_ | refine go_call [] (hc1) rfl rfl rfl rfl ?_ | refine go_call [] (hc2) rfl rfl rfl rfl ?_ | refine go_call [] (hc3) rfl rfl rfl rfl ?_ | refine go_call [] (hc4) rfl rfl rfl rfl ?_ | refine go_idx rfl rfl rfl rfl l0 l2 rfl ?_) <;> conv => whnf) | ((first | refine go_dsplit2 rfl (fun h => ?_) (fun h => ?_) | refine go_loadB ?_ | refine ⟨by kernel_rfl, ?_⟩ | refine go_ret ?_) <;> conv => whnf) | ((first | refine go_skip ?_) <;> conv => whnf) | refine ⟨rfl, ?_⟩ | ((first | refine ⟨trivial, ?_⟩ | refine ⟨le_of_ble rfl, ?_⟩) <;> conv => whnf) | fail
  all_goals exact ret_imm rfl rfl rfl rfl rfl rfl

theorem c119 (t : Timetable) (hf : t.fit) (hn : netOk t.net = true) (r : Report) : CallOk Tryz.prog 119 [.imm (.agg t.enc), .imm (.agg r.enc)] { res := [.imm (.bool (repOk t r))] } := by
  refine callOk_of tyOk Tryz.func119 rfl rfl (le_of_ble rfl) (le_of_ble rfl) (mutOk_imm rfl _) ?_
  have hnl : ((t.net.lines.map Line.enc).length : Int) = t.net.lines.length := by rw [List.length_map]
  have hlb := hf.1.2.2.1
  have hwl : IntKind.i64.wrap (((t.net.lines.map Line.enc).length : Int) - 1) = (t.net.lines.length : Int) - 1 := by rw [hnl]; exact wrap_small (by omega) (by omega)
  have hc0 := c55 r.vehicle 1 99
  have hc1 := c54 r.time
  have hc2 := c55 r.line 0 (IntKind.i64.wrap (((t.net.lines.map Line.enc).length : Int) - 1))
  rw [show inR r.line 0 (IntKind.i64.wrap (((t.net.lines.map Line.enc).length : Int) - 1)) = lineInR t r by rw [hwl]; rfl] at hc2
  unfold repOk
  cases b0 : inR r.vehicle 1 99 with
  | false =>
    rw [b0] at hc0
    repeat' first | refine go_seq ?_ | refine go_region ?_ | refine go_miss rfl rfl rfl ?_ | refine go_undef rfl rfl rfl ?_ | refine go_draw drawsOk ?_ | ((first | refine go_op rfl ?_ | refine go_nil ?_ | refine go_hit rfl rfl rfl ?_ | refine go_splitT rfl rfl rfl (fun h => ?_) (fun h => ?_) | refine go_splitF rfl rfl rfl (fun h => ?_) (fun h => ?_) | refine go_dop rfl ?_ | refine go_dhit rfl rfl ?_ | refine go_dmiss rfl rfl ?_ | refine go_dundef rfl rfl ?_ | refine go_dend (by kernel_rfl) ?_ | refine go_pickT rfl ?_ | refine go_pickF rfl ?_ | refine go_pick rfl (fun h => ?_) (fun h => ?_) | refine go_call [] (hc0) rfl rfl rfl rfl ?_) <;> conv => whnf) | ((first | refine go_dsplit2 rfl (fun h => ?_) (fun h => ?_) | refine go_loadB ?_ | refine ⟨by kernel_rfl, ?_⟩ | refine go_ret ?_) <;> conv => whnf) | ((first | refine go_skip ?_) <;> conv => whnf) | refine ⟨rfl, ?_⟩ | ((first | refine ⟨trivial, ?_⟩ | refine ⟨le_of_ble rfl, ?_⟩) <;> conv => whnf) | fail
    all_goals exact ret_imm rfl rfl rfl rfl rfl rfl
  | true =>
  rw [b0] at hc0
  cases b1 : timeOk r.time with
  | false =>
    rw [b1] at hc1
    repeat' first | refine go_seq ?_ | refine go_region ?_ | refine go_miss rfl rfl rfl ?_ | refine go_undef rfl rfl rfl ?_ | refine go_draw drawsOk ?_ | ((first | refine go_op rfl ?_ | refine go_nil ?_ | refine go_hit rfl rfl rfl ?_ | refine go_splitT rfl rfl rfl (fun h => ?_) (fun h => ?_) | refine go_splitF rfl rfl rfl (fun h => ?_) (fun h => ?_) | refine go_dop rfl ?_ | refine go_dhit rfl rfl ?_ | refine go_dmiss rfl rfl ?_ | refine go_dundef rfl rfl ?_ | refine go_dend (by kernel_rfl) ?_ | refine go_pickT rfl ?_ | refine go_pickF rfl ?_ | refine go_pick rfl (fun h => ?_) (fun h => ?_) | refine go_call [] (hc0) rfl rfl rfl rfl ?_ | refine go_call [] (hc1) rfl rfl rfl rfl ?_) <;> conv => whnf) | ((first | refine go_dsplit2 rfl (fun h => ?_) (fun h => ?_) | refine go_loadB ?_ | refine ⟨by kernel_rfl, ?_⟩ | refine go_ret ?_) <;> conv => whnf) | ((first | refine go_skip ?_) <;> conv => whnf) | refine ⟨rfl, ?_⟩ | ((first | refine ⟨trivial, ?_⟩ | refine ⟨le_of_ble rfl, ?_⟩) <;> conv => whnf) | fail
    all_goals exact ret_imm rfl rfl rfl rfl rfl rfl
  | true =>
  rw [b1] at hc1
  cases b2 : lineInR t r with
  | false =>
    rw [b2] at hc2
    repeat' first | refine go_seq ?_ | refine go_region ?_ | refine go_miss rfl rfl rfl ?_ | refine go_undef rfl rfl rfl ?_ | refine go_draw drawsOk ?_ | ((first | refine go_op rfl ?_ | refine go_nil ?_ | refine go_hit rfl rfl rfl ?_ | refine go_splitT rfl rfl rfl (fun h => ?_) (fun h => ?_) | refine go_splitF rfl rfl rfl (fun h => ?_) (fun h => ?_) | refine go_dop rfl ?_ | refine go_dhit rfl rfl ?_ | refine go_dmiss rfl rfl ?_ | refine go_dundef rfl rfl ?_ | refine go_dend (by kernel_rfl) ?_ | refine go_pickT rfl ?_ | refine go_pickF rfl ?_ | refine go_pick rfl (fun h => ?_) (fun h => ?_) | refine go_call [] (hc0) rfl rfl rfl rfl ?_ | refine go_call [] (hc1) rfl rfl rfl rfl ?_ | refine go_call [] (hc2) rfl rfl rfl rfl ?_) <;> conv => whnf) | ((first | refine go_dsplit2 rfl (fun h => ?_) (fun h => ?_) | refine go_loadB ?_ | refine ⟨by kernel_rfl, ?_⟩ | refine go_ret ?_) <;> conv => whnf) | ((first | refine go_skip ?_) <;> conv => whnf) | refine ⟨rfl, ?_⟩ | ((first | refine ⟨trivial, ?_⟩ | refine ⟨le_of_ble rfl, ?_⟩) <;> conv => whnf) | fail
    all_goals exact ret_imm rfl rfl rfl rfl rfl rfl
  | true =>
  rw [b2] at hc2
  obtain ⟨l0, l, l1, l2, l3⟩ := line_atR b2
  have hlf := hf.1.2.2.2 l (List.mem_of_getElem? l1)
  have hlr := line_runs (line_ok hn (List.mem_of_getElem? l1))
  have hc3 := c146 l hlr.1 hlf.2.2
  have hc4 := c55 r.done 0 (totW l.runs)
  rw [l3]
  repeat' first | refine go_seq ?_ | refine go_region ?_ | refine go_miss rfl rfl rfl ?_ | refine go_undef rfl rfl rfl ?_ | refine go_draw drawsOk ?_ | ((first | refine go_op rfl ?_ | refine go_nil ?_ | refine go_hit rfl rfl rfl ?_ | refine go_splitT rfl rfl rfl (fun h => ?_) (fun h => ?_) | refine go_splitF rfl rfl rfl (fun h => ?_) (fun h => ?_) | refine go_dop rfl ?_ | refine go_dhit rfl rfl ?_ | refine go_dmiss rfl rfl ?_ | refine go_dundef rfl rfl ?_ | refine go_dend (by kernel_rfl) ?_ | refine go_pickT rfl ?_ | refine go_pickF rfl ?_ | refine go_pick rfl (fun h => ?_) (fun h => ?_) | refine go_call [] (hc0) rfl rfl rfl rfl ?_ | refine go_call [] (hc1) rfl rfl rfl rfl ?_ | refine go_call [] (hc2) rfl rfl rfl rfl ?_ | refine go_call [] (hc3) rfl rfl rfl rfl ?_ | refine go_call [] (hc4) rfl rfl rfl rfl ?_ | refine go_idx rfl rfl rfl rfl l0 l2 rfl ?_) <;> conv => whnf) | ((first | refine go_dsplit2 rfl (fun h => ?_) (fun h => ?_) | refine go_loadB ?_ | refine ⟨by kernel_rfl, ?_⟩ | refine go_ret ?_) <;> conv => whnf) | ((first | refine go_skip ?_) <;> conv => whnf) | refine ⟨rfl, ?_⟩ | ((first | refine ⟨trivial, ?_⟩ | refine ⟨le_of_ble rfl, ?_⟩) <;> conv => whnf) | fail
  all_goals exact ret_imm rfl rfl rfl rfl rfl rfl

/-- A report stands behind the one ahead of it. -/
def repBehind (rs : List Report) (i : Nat) (r : Report) : Bool :=
  match i with
  | 0 => true
  | j + 1 => match rs[j]? with | some p => decide (p.time < r.time) || (decide (p.time = r.time) && decide (p.vehicle < r.vehicle)) | none => true
def repAt (t : Timetable) (rs : List Report) (i : Nat) (r : Report) : Bool := repOk t r && repBehind rs i r
def repsIn (t : Timetable) (rs : List Report) : Bool := decide (rs.length ≤ 20) && allI (repAt t rs) rs
def repsOk (t : Timetable) (rs : List Report) : Bool := ttOk t && repsIn t rs
theorem behind_eq {rs : List Report} {i : Nat} {r p : Report} (h0 : i ≠ 0) (hp : rs[i - 1]? = some p) : repBehind rs i r = (decide (p.time < r.time) || (decide (p.time = r.time) && decide (p.vehicle < r.vehicle))) := by
  obtain ⟨j, rfl⟩ : ∃ j, i = j + 1 := ⟨i - 1, by omega⟩
  show (match rs[j]? with | some p => decide (p.time < r.time) || (decide (p.time = r.time) && decide (p.vehicle < r.vehicle)) | none => true) = _
  rw [show rs[j]? = some p from hp]
theorem cmp_behind (a b c d : Int) : (orF [cmpI a b, cmpI c d] < 0) ↔ (a < b ∨ (a = b ∧ c < d)) := by
  have key : ∀ x y, (cmpI x y < 0 ↔ x < y) ∧ (cmpI x y = 0 ↔ x = y) := by
    intro x y
    unfold cmpI
    by_cases h : x < y
    · rw [if_pos h]; omega
    · rw [if_neg h]
      by_cases h2 : y < x
      · rw [if_pos h2]; omega
      · rw [if_neg h2]; omega
  have h1 := key a b
  have h2 := key c d
  have e : orF [cmpI a b, cmpI c d] = if cmpI a b = 0 then (if cmpI c d = 0 then 0 else cmpI c d) else cmpI a b := rfl
  rw [e]
  generalize cmpI a b = p at *
  generalize cmpI c d = q at *
  by_cases hp : p = 0
  · rw [if_pos hp]
    by_cases hq : q = 0
    · rw [if_pos hq]; omega
    · rw [if_neg hq]; omega
  · rw [if_neg hp]; omega

theorem c121 (t : Timetable) (hf : t.fit) (rs : List Report) (hl : rs.length ≤ 1048576) : CallOk Tryz.prog 121 [.imm (.agg t.enc), .imm (.list (rs.map Report.enc))] { res := [.imm (.bool (repsIn t rs))] } := by
  refine callOk_of tyOk Tryz.func121 rfl rfl (le_of_ble rfl) (le_of_ble rfl) (mutOk_imm rfl _) ?_
  have hrl : ((rs.map Report.enc).length : Int) = rs.length := by rw [List.length_map]
  by_cases h20 : rs.length ≤ 20
  case neg =>
    have hr : repsIn t rs = false := by unfold repsIn; rw [decide_eq_false h20]; rfl
    repeat' first | refine go_seq ?_ | refine go_region ?_ | refine go_miss rfl rfl rfl ?_ | refine go_undef rfl rfl rfl ?_ | refine go_draw drawsOk ?_ | ((first | refine go_op rfl ?_ | refine go_nil ?_ | refine go_hit rfl rfl rfl ?_ | refine go_splitT rfl rfl rfl (fun h => ?_) (fun h => ?_) | refine go_splitF rfl rfl rfl (fun h => ?_) (fun h => ?_) | refine go_storeBox rfl rfl rfl rfl rfl rfl ?_ | refine go_dop rfl ?_ | refine go_dhit rfl rfl ?_ | refine go_dmiss rfl rfl ?_ | refine go_dundef rfl rfl ?_ | refine go_dend (by kernel_rfl) ?_ | refine go_pickT rfl ?_ | refine go_pickF rfl ?_ | refine go_pick rfl (fun h => ?_) (fun h => ?_)) <;> conv => whnf) | ((first | refine go_dsplit2 rfl (fun h => ?_) (fun h => ?_) | refine go_loadB ?_ | refine ⟨by kernel_rfl, ?_⟩ | refine go_ret ?_) <;> conv => whnf) | refine go_block ?_ | ((first | refine go_skip ?_ | refine go_exit ?_) <;> conv => whnf) | refine go_true rfl ?_ | refine go_false rfl ?_ | refine go_cond rfl (fun h => ?_) (fun h => ?_) | refine ⟨rfl, ?_⟩ | ((first | refine ⟨trivial, ?_⟩ | refine ⟨le_of_ble rfl, ?_⟩) <;> conv => whnf) | fail
    all_goals first
      | (refine ret_imm rfl rfl rfl rfl ?_ rfl; rw [hr]; done)
      | (exfalso; have h' := of_decide_eq_false h; omega)
      | (exfalso; have h' := of_decide_eq_true h; omega)
      | (exfalso; rename_i hq; have h' := of_decide_eq_true hq; omega)
      | (exfalso; rename_i hq; have h' := of_decide_eq_false hq; omega)
      | (exfalso; rename_i hq _; have h' := of_decide_eq_true hq; omega)
      | (exfalso; rename_i hq _; have h' := of_decide_eq_false hq; omega)
  have hr : repsIn t rs = allI (repAt t rs) rs := by unfold repsIn; rw [decide_eq_true h20, Bool.true_and]
  rw [hr]
  repeat' first | refine go_seq ?_ | refine go_region ?_ | refine go_miss rfl rfl rfl ?_ | refine go_undef rfl rfl rfl ?_ | refine go_draw drawsOk ?_ | ((first | refine go_op rfl ?_ | refine go_nil ?_ | refine go_hit rfl rfl rfl ?_ | refine go_splitT rfl rfl rfl (fun h => ?_) (fun h => ?_) | refine go_splitF rfl rfl rfl (fun h => ?_) (fun h => ?_) | refine go_storeBox rfl rfl rfl rfl rfl rfl ?_ | refine go_dop rfl ?_ | refine go_dhit rfl rfl ?_ | refine go_dmiss rfl rfl ?_ | refine go_dundef rfl rfl ?_ | refine go_dend (by kernel_rfl) ?_ | refine go_pickT rfl ?_ | refine go_pickF rfl ?_ | refine go_pick rfl (fun h => ?_) (fun h => ?_)) <;> conv => whnf) | ((first | refine go_dsplit2 rfl (fun h => ?_) (fun h => ?_) | refine go_loadB ?_ | refine ⟨by kernel_rfl, ?_⟩ | refine go_ret ?_) <;> conv => whnf) | refine go_block ?_ | ((first | refine go_skip ?_ | refine go_exit ?_) <;> conv => whnf) | refine go_true rfl ?_ | refine go_false rfl ?_ | refine go_cond rfl (fun h => ?_) (fun h => ?_) | refine ⟨rfl, ?_⟩ | ((first | refine ⟨trivial, ?_⟩ | refine ⟨le_of_ble rfl, ?_⟩) <;> conv => whnf) | fail
  · exfalso; have h' := of_decide_eq_true h; omega
  refine go_loop (α := Nat) (fun i => i ≤ rs.length ∧ upI (repAt t rs) rs i = true) (fun i => rs.length - i)
    (fun i => st Tryz.f121.ntmps [(1, .imm (.list (rs.map Report.enc))), (2, .box 1000 0), (10, .imm (.list (rs.map Report.enc))), (11, .imm (.int .i64 (rs.map Report.enc).length)), (12, .imm (.int .i64 (i : Nat)))] [(1000, .box 40 (t.enc.map .imm))] []) 0
    ⟨Nat.zero_le _, rfl⟩ (ref_st (fun _ => nid 1 2) rfl ⟨rfl, ⟨rfl, rfl⟩, rfl, rfl, rfl, trivial⟩ ⟨⟨rfl, wavs_imm _⟩, trivial⟩ (by simp) rfl (by simp)) ?_
  rintro i ⟨hi, ha⟩
  cases hx : rs[i]? with
  | none =>
    have hge := le_of_at hx
    repeat' first | refine go_seq ?_ | refine go_region ?_ | refine go_miss rfl rfl rfl ?_ | refine go_undef rfl rfl rfl ?_ | refine go_draw drawsOk ?_ | ((first | refine go_op rfl ?_ | refine go_nil ?_ | refine go_hit rfl rfl rfl ?_ | refine go_splitT rfl rfl rfl (fun h => ?_) (fun h => ?_) | refine go_splitF rfl rfl rfl (fun h => ?_) (fun h => ?_) | refine go_storeBox rfl rfl rfl rfl rfl rfl ?_ | refine go_dop rfl ?_ | refine go_dhit rfl rfl ?_ | refine go_dmiss rfl rfl ?_ | refine go_dundef rfl rfl ?_ | refine go_dend (by kernel_rfl) ?_ | refine go_pickT rfl ?_ | refine go_pickF rfl ?_ | refine go_pick rfl (fun h => ?_) (fun h => ?_)) <;> conv => whnf) | ((first | refine go_dsplit2 rfl (fun h => ?_) (fun h => ?_) | refine go_loadB ?_ | refine ⟨by kernel_rfl, ?_⟩ | refine go_ret ?_) <;> conv => whnf) | refine go_block ?_ | ((first | refine go_skip ?_ | refine go_exit ?_) <;> conv => whnf) | refine go_true rfl ?_ | refine go_false rfl ?_ | refine go_cond rfl (fun h => ?_) (fun h => ?_) | refine ⟨rfl, ?_⟩ | ((first | refine ⟨trivial, ?_⟩ | refine ⟨le_of_ble rfl, ?_⟩) <;> conv => whnf) | fail
    all_goals first
      | (exfalso; have h' := of_decide_eq_false h; omega)
      | (exfalso; have h' := of_decide_eq_true h; omega)
      | (exfalso; rename_i hq; have h' := of_decide_eq_true hq; omega)
      | (exfalso; rename_i hq; have h' := of_decide_eq_false hq; omega)
      | (exfalso; rename_i hq _; have h' := of_decide_eq_true hq; omega)
      | (exfalso; rename_i hq _; have h' := of_decide_eq_false hq; omega)
      | exact ret_imm rfl rfl rfl rfl (by rw [allI_end hge ha]) rfl
  | some x =>
    have hlt := lt_of_at hx
    have hrw := row_at Report.enc hx
    have hc1 := c147 t hf x
    cases b0 : repOk t x with
    | false =>
      rw [b0] at hc1
      repeat' first | refine go_seq ?_ | refine go_region ?_ | refine go_miss rfl rfl rfl ?_ | refine go_undef rfl rfl rfl ?_ | refine go_draw drawsOk ?_ | ((first | refine go_op rfl ?_ | refine go_nil ?_ | refine go_hit rfl rfl rfl ?_ | refine go_splitT rfl rfl rfl (fun h => ?_) (fun h => ?_) | refine go_splitF rfl rfl rfl (fun h => ?_) (fun h => ?_) | refine go_storeBox rfl rfl rfl rfl rfl rfl ?_ | refine go_dop rfl ?_ | refine go_dhit rfl rfl ?_ | refine go_dmiss rfl rfl ?_ | refine go_dundef rfl rfl ?_ | refine go_dend (by kernel_rfl) ?_ | refine go_pickT rfl ?_ | refine go_pickF rfl ?_ | refine go_pick rfl (fun h => ?_) (fun h => ?_) | refine go_call [] (hc1) rfl rfl rfl rfl ?_ | refine go_idx rfl rfl rfl rfl (by omega) hrw rfl ?_) <;> conv => whnf) | ((first | refine go_dsplit2 rfl (fun h => ?_) (fun h => ?_) | refine go_loadB ?_ | refine ⟨by kernel_rfl, ?_⟩ | refine go_ret ?_) <;> conv => whnf) | refine go_block ?_ | ((first | refine go_skip ?_ | refine go_exit ?_) <;> conv => whnf) | refine go_true rfl ?_ | refine go_false rfl ?_ | refine go_cond rfl (fun h => ?_) (fun h => ?_) | refine ⟨rfl, ?_⟩ | ((first | refine ⟨trivial, ?_⟩ | refine ⟨le_of_ble rfl, ?_⟩) <;> conv => whnf) | fail
      all_goals first
        | (exfalso; have h' := of_decide_eq_false h; omega)
        | (exfalso; have h' := of_decide_eq_true h; omega)
        | (exfalso; rename_i hq; have h' := of_decide_eq_true hq; omega)
        | (exfalso; rename_i hq; have h' := of_decide_eq_false hq; omega)
        | (exfalso; rename_i hq _; have h' := of_decide_eq_true hq; omega)
        | (exfalso; rename_i hq _; have h' := of_decide_eq_false hq; omega)
        | (refine ret_imm rfl rfl rfl rfl ?_ rfl; rw [show allI (repAt t rs) rs = false from allI_not hx (by unfold repAt; rw [b0]; rfl)]; done)
    | true =>
      rw [b0] at hc1
      by_cases hi0 : i = 0
      case pos =>
        repeat' first | refine go_seq ?_ | refine go_region ?_ | refine go_miss rfl rfl rfl ?_ | refine go_undef rfl rfl rfl ?_ | refine go_draw drawsOk ?_ | ((first | refine go_op rfl ?_ | refine go_nil ?_ | refine go_hit rfl rfl rfl ?_ | refine go_splitT rfl rfl rfl (fun h => ?_) (fun h => ?_) | refine go_splitF rfl rfl rfl (fun h => ?_) (fun h => ?_) | refine go_storeBox rfl rfl rfl rfl rfl rfl ?_ | refine go_dop rfl ?_ | refine go_dhit rfl rfl ?_ | refine go_dmiss rfl rfl ?_ | refine go_dundef rfl rfl ?_ | refine go_dend (by kernel_rfl) ?_ | refine go_pickT rfl ?_ | refine go_pickF rfl ?_ | refine go_pick rfl (fun h => ?_) (fun h => ?_) | refine go_call [] (hc1) rfl rfl rfl rfl ?_ | refine go_idx rfl rfl rfl rfl (by omega) hrw rfl ?_) <;> conv => whnf) | ((first | refine go_dsplit2 rfl (fun h => ?_) (fun h => ?_) | refine go_loadB ?_ | refine ⟨by kernel_rfl, ?_⟩ | refine go_ret ?_) <;> conv => whnf) | refine go_block ?_ | ((first | refine go_skip ?_ | refine go_exit ?_) <;> conv => whnf) | refine go_true rfl ?_ | refine go_false rfl ?_ | refine go_cond rfl (fun h => ?_) (fun h => ?_) | refine ⟨rfl, ?_⟩ | ((first | refine ⟨trivial, ?_⟩ | refine ⟨le_of_ble rfl, ?_⟩) <;> conv => whnf) | fail
        all_goals first
          | (exfalso; have h' := of_decide_eq_false h; omega)
          | (exfalso; have h' := of_decide_eq_true h; omega)
          | (exfalso; rename_i hq; have h' := of_decide_eq_true hq; omega)
          | (exfalso; rename_i hq; have h' := of_decide_eq_false hq; omega)
          | (exfalso; rename_i hq _; have h' := of_decide_eq_true hq; omega)
          | (exfalso; rename_i hq _; have h' := of_decide_eq_false hq; omega)
          | exact go_next (i + 1) ⟨by omega, upI_next hx ha (by unfold repAt; rw [b0, hi0]; rfl)⟩ (by omega) (ref_st id rfl ⟨rfl, ⟨rfl, rfl⟩, rfl, rfl, next_i (by omega), trivial⟩ ⟨⟨rfl, wavs_imm _⟩, trivial⟩ (by simp) rfl (by simp))
      case neg =>
        obtain ⟨y, hy⟩ : ∃ y, rs[i - 1]? = some y := ⟨_, List.getElem?_eq_getElem (by omega)⟩
        have hbe := behind_eq (r := x) hi0 hy
        have hw1 : IntKind.i64.wrap (((i : Nat) : Int) - 1) = ((i - 1 : Nat) : Int) := by rw [wrap_small (by omega) (by omega)]; omega
        have hry : (rs.map Report.enc)[(IntKind.i64.wrap (((i : Nat) : Int) - 1)).toNat]? = some y.enc := by rw [hw1, Int.toNat_natCast, List.getElem?_map, hy]; rfl
        have hw0 : 0 ≤ IntKind.i64.wrap (((i : Nat) : Int) - 1) := by rw [hw1]; omega
        have hc2 := c94 y.time x.time
        have hc3 := c94 y.vehicle x.vehicle
        have hc4 := c93 [cmpI y.time x.time, cmpI y.vehicle x.vehicle] (by simp)
        have hcb := cmp_behind y.time x.time y.vehicle x.vehicle
        by_cases hlt2 : y.time < x.time ∨ (y.time = x.time ∧ y.vehicle < x.vehicle)
        case pos =>
          have hneg := hcb.2 hlt2
          have hat : repAt t rs i x = true := by unfold repAt; rw [b0, hbe]; simpa using hlt2
          repeat' first | refine go_seq ?_ | refine go_region ?_ | refine go_miss rfl rfl rfl ?_ | refine go_undef rfl rfl rfl ?_ | refine go_draw drawsOk ?_ | ((first | refine go_op rfl ?_ | refine go_nil ?_ | refine go_hit rfl rfl rfl ?_ | refine go_splitT rfl rfl rfl (fun h => ?_) (fun h => ?_) | refine go_splitF rfl rfl rfl (fun h => ?_) (fun h => ?_) | refine go_storeBox rfl rfl rfl rfl rfl rfl ?_ | refine go_dop rfl ?_ | refine go_dhit rfl rfl ?_ | refine go_dmiss rfl rfl ?_ | refine go_dundef rfl rfl ?_ | refine go_dend (by kernel_rfl) ?_ | refine go_pickT rfl ?_ | refine go_pickF rfl ?_ | refine go_pick rfl (fun h => ?_) (fun h => ?_) | refine go_call [] (hc1) rfl rfl rfl rfl ?_ | refine go_call [] (hc2) rfl rfl rfl rfl ?_ | refine go_call [] (hc3) rfl rfl rfl rfl ?_ | refine go_call [] (hc4) rfl rfl rfl rfl ?_ | refine go_idx rfl rfl rfl rfl (by omega) hrw rfl ?_ | refine go_idx rfl rfl rfl rfl hw0 hry rfl ?_) <;> conv => whnf) | ((first | refine go_dsplit2 rfl (fun h => ?_) (fun h => ?_) | refine go_loadB ?_ | refine ⟨by kernel_rfl, ?_⟩ | refine go_ret ?_) <;> conv => whnf) | refine go_block ?_ | ((first | refine go_skip ?_ | refine go_exit ?_) <;> conv => whnf) | refine go_true rfl ?_ | refine go_false rfl ?_ | refine go_cond rfl (fun h => ?_) (fun h => ?_) | refine ⟨rfl, ?_⟩ | ((first | refine ⟨trivial, ?_⟩ | refine ⟨le_of_ble rfl, ?_⟩) <;> conv => whnf) | fail
          all_goals first
            | (exfalso; have h' := of_decide_eq_false h; omega)
            | (exfalso; have h' := of_decide_eq_true h; omega)
            | (exfalso; rename_i hq; have h' := of_decide_eq_true hq; omega)
            | (exfalso; rename_i hq; have h' := of_decide_eq_false hq; omega)
            | (exfalso; rename_i hq _; have h' := of_decide_eq_true hq; omega)
            | (exfalso; rename_i hq _; have h' := of_decide_eq_false hq; omega)
            | exact go_next (i + 1) ⟨by omega, upI_next hx ha hat⟩ (by omega) (ref_st id rfl ⟨rfl, ⟨rfl, rfl⟩, rfl, rfl, next_i (by omega), trivial⟩ ⟨⟨rfl, wavs_imm _⟩, trivial⟩ (by simp) rfl (by simp))
            | (exfalso; simp only [decide_eq_true_eq, decide_eq_false_iff_not] at *; omega)
            | trace_state
        case neg =>
          have hneg : ¬ orF [cmpI y.time x.time, cmpI y.vehicle x.vehicle] < 0 := fun h => hlt2 (hcb.1 h)
          have hat : repAt t rs i x = false := by unfold repAt; rw [b0, hbe]; simpa using hlt2
          repeat' first | refine go_seq ?_ | refine go_region ?_ | refine go_miss rfl rfl rfl ?_ | refine go_undef rfl rfl rfl ?_ | refine go_draw drawsOk ?_ | ((first | refine go_op rfl ?_ | refine go_nil ?_ | refine go_hit rfl rfl rfl ?_ | refine go_splitT rfl rfl rfl (fun h => ?_) (fun h => ?_) | refine go_splitF rfl rfl rfl (fun h => ?_) (fun h => ?_) | refine go_storeBox rfl rfl rfl rfl rfl rfl ?_ | refine go_dop rfl ?_ | refine go_dhit rfl rfl ?_ | refine go_dmiss rfl rfl ?_ | refine go_dundef rfl rfl ?_ | refine go_dend (by kernel_rfl) ?_ | refine go_pickT rfl ?_ | refine go_pickF rfl ?_ | refine go_pick rfl (fun h => ?_) (fun h => ?_) | refine go_call [] (hc1) rfl rfl rfl rfl ?_ | refine go_call [] (hc2) rfl rfl rfl rfl ?_ | refine go_call [] (hc3) rfl rfl rfl rfl ?_ | refine go_call [] (hc4) rfl rfl rfl rfl ?_ | refine go_idx rfl rfl rfl rfl (by omega) hrw rfl ?_ | refine go_idx rfl rfl rfl rfl hw0 hry rfl ?_) <;> conv => whnf) | ((first | refine go_dsplit2 rfl (fun h => ?_) (fun h => ?_) | refine go_loadB ?_ | refine ⟨by kernel_rfl, ?_⟩ | refine go_ret ?_) <;> conv => whnf) | refine go_block ?_ | ((first | refine go_skip ?_ | refine go_exit ?_) <;> conv => whnf) | refine go_true rfl ?_ | refine go_false rfl ?_ | refine go_cond rfl (fun h => ?_) (fun h => ?_) | refine ⟨rfl, ?_⟩ | ((first | refine ⟨trivial, ?_⟩ | refine ⟨le_of_ble rfl, ?_⟩) <;> conv => whnf) | fail
          all_goals first
            | (exfalso; have h' := of_decide_eq_false h; omega)
            | (exfalso; have h' := of_decide_eq_true h; omega)
            | (exfalso; rename_i hq; have h' := of_decide_eq_true hq; omega)
            | (exfalso; rename_i hq; have h' := of_decide_eq_false hq; omega)
            | (exfalso; rename_i hq _; have h' := of_decide_eq_true hq; omega)
            | (exfalso; rename_i hq _; have h' := of_decide_eq_false hq; omega)
            | (refine ret_imm rfl rfl rfl rfl ?_ rfl; rw [show allI (repAt t rs) rs = false from allI_not hx hat]; done)
            | (exfalso; simp only [decide_eq_true_eq, decide_eq_false_iff_not] at *; omega)
            | trace_state

theorem c88 (t : Timetable) (hf : t.fit) (rs : List Report) (hl : rs.length ≤ 1048576) : CallOk Tryz.prog 88 [.imm (.agg t.enc), .imm (.list (rs.map Report.enc))] { res := [.imm (.bool (repsOk t rs))] } := by
  refine callOk_of tyOk Tryz.func88 rfl rfl (le_of_ble rfl) (le_of_ble rfl) (mutOk_imm rfl _) ?_
  have h1 := c73 t hf
  have h2 := c121 t hf rs hl
  unfold repsOk
  cases hb : ttOk t <;> rw [hb] at h1 <;>
  (
  repeat' first | refine go_seq ?_ | refine go_region ?_ | refine go_miss rfl rfl rfl ?_ | refine go_undef rfl rfl rfl ?_ | ((first | refine go_op rfl ?_ | refine go_nil ?_ | refine go_hit rfl rfl rfl ?_ | refine go_splitT rfl rfl rfl (fun h => ?_) (fun h => ?_) | refine go_splitF rfl rfl rfl (fun h => ?_) (fun h => ?_) | refine go_pickT rfl ?_ | refine go_pickF rfl ?_ | refine go_pick rfl (fun h => ?_) (fun h => ?_) | refine go_call [] (h1) rfl rfl rfl rfl ?_ | refine go_call [] (h2) rfl rfl rfl rfl ?_) <;> conv => whnf) | ((first | refine go_loadB ?_ | refine ⟨by kernel_rfl, ?_⟩ | refine go_ret ?_) <;> conv => whnf) | ((first | refine go_skip ?_) <;> conv => whnf) | refine ⟨rfl, ?_⟩ | ((first | refine ⟨trivial, ?_⟩ | refine ⟨le_of_ble rfl, ?_⟩) <;> conv => whnf) | fail
  all_goals exact ret_imm rfl rfl rfl rfl rfl rfl
  )

theorem ttOk_net {t : Timetable} (h : ttOk t = true) : netOk t.net = true := by
  unfold ttOk at h
  simp only [Bool.and_eq_true] at h
  exact h.1

theorem c82 (t : Timetable) (hf : t.fit) (rs : List Report) (hl : rs.length ≤ 1048576) : CallOk Tryz.prog 82 [.imm (.agg t.enc), .imm (.list (rs.map Report.enc))] { res := [.imm (.bool (repsOk t rs))] } := by
  refine callOk_of tyOk Tryz.func82 rfl rfl (le_of_ble rfl) (le_of_ble rfl) (mutOk_imm rfl _) ?_
  have hrl : ((rs.map Report.enc).length : Int) = rs.length := by rw [List.length_map]
  have hg := c67 t hf
  cases hn : ttOk t with
  | false =>
    have hr : repsOk t rs = false := by unfold repsOk; rw [hn]; rfl
    rw [hn] at hg
    repeat' first | refine go_seq ?_ | refine go_region ?_ | refine go_miss rfl rfl rfl ?_ | refine go_undef rfl rfl rfl ?_ | refine go_draw drawsOk ?_ | ((first | refine go_op rfl ?_ | refine go_nil ?_ | refine go_hit rfl rfl rfl ?_ | refine go_splitT rfl rfl rfl (fun h => ?_) (fun h => ?_) | refine go_splitF rfl rfl rfl (fun h => ?_) (fun h => ?_) | refine go_dop rfl ?_ | refine go_dhit rfl rfl ?_ | refine go_dmiss rfl rfl ?_ | refine go_dundef rfl rfl ?_ | refine go_dend (by kernel_rfl) ?_ | refine go_pickT rfl ?_ | refine go_pickF rfl ?_ | refine go_pick rfl (fun h => ?_) (fun h => ?_) | refine go_call [] (hg) rfl rfl rfl rfl ?_) <;> conv => whnf) | ((first | refine go_dsplit2 rfl (fun h => ?_) (fun h => ?_) | refine go_loadB ?_ | refine ⟨by kernel_rfl, ?_⟩ | refine go_ret ?_) <;> conv => whnf) | refine go_block ?_ | ((first | refine go_skip ?_ | refine go_exit ?_) <;> conv => whnf) | refine go_true rfl ?_ | refine go_false rfl ?_ | refine go_cond rfl (fun h => ?_) (fun h => ?_) | refine ⟨rfl, ?_⟩ | ((first | refine ⟨trivial, ?_⟩ | refine ⟨le_of_ble rfl, ?_⟩) <;> conv => whnf) | fail
    all_goals exact ret_imm rfl rfl rfl rfl (by rw [hr]) rfl
  | true =>
  rw [hn] at hg
  by_cases h20 : rs.length ≤ 20
  case neg =>
    have hr : repsOk t rs = false := by unfold repsOk repsIn; rw [decide_eq_false h20, Bool.false_and, Bool.and_false]
    repeat' first | refine go_seq ?_ | refine go_region ?_ | refine go_miss rfl rfl rfl ?_ | refine go_undef rfl rfl rfl ?_ | refine go_draw drawsOk ?_ | ((first | refine go_op rfl ?_ | refine go_nil ?_ | refine go_hit rfl rfl rfl ?_ | refine go_splitT rfl rfl rfl (fun h => ?_) (fun h => ?_) | refine go_splitF rfl rfl rfl (fun h => ?_) (fun h => ?_) | refine go_dop rfl ?_ | refine go_dhit rfl rfl ?_ | refine go_dmiss rfl rfl ?_ | refine go_dundef rfl rfl ?_ | refine go_dend (by kernel_rfl) ?_ | refine go_pickT rfl ?_ | refine go_pickF rfl ?_ | refine go_pick rfl (fun h => ?_) (fun h => ?_) | refine go_call [] (hg) rfl rfl rfl rfl ?_) <;> conv => whnf) | ((first | refine go_dsplit2 rfl (fun h => ?_) (fun h => ?_) | refine go_loadB ?_ | refine ⟨by kernel_rfl, ?_⟩ | refine go_ret ?_) <;> conv => whnf) | refine go_block ?_ | ((first | refine go_skip ?_ | refine go_exit ?_) <;> conv => whnf) | refine go_true rfl ?_ | refine go_false rfl ?_ | refine go_cond rfl (fun h => ?_) (fun h => ?_) | refine ⟨rfl, ?_⟩ | ((first | refine ⟨trivial, ?_⟩ | refine ⟨le_of_ble rfl, ?_⟩) <;> conv => whnf) | fail
    all_goals first
      | (refine ret_imm rfl rfl rfl rfl ?_ rfl; rw [hr]; done)
      | (exfalso; have h' := of_decide_eq_false h; omega)
      | (exfalso; have h' := of_decide_eq_true h; omega)
      | (exfalso; rename_i hq; have h' := of_decide_eq_true hq; omega)
      | (exfalso; rename_i hq; have h' := of_decide_eq_false hq; omega)
      | (exfalso; rename_i hq _; have h' := of_decide_eq_true hq; omega)
      | (exfalso; rename_i hq _; have h' := of_decide_eq_false hq; omega)
  have hr : repsOk t rs = allI (repAt t rs) rs := by unfold repsOk repsIn; rw [hn, decide_eq_true h20, Bool.true_and, Bool.true_and]
  rw [hr]
  repeat' first | refine go_seq ?_ | refine go_region ?_ | refine go_miss rfl rfl rfl ?_ | refine go_undef rfl rfl rfl ?_ | refine go_draw drawsOk ?_ | ((first | refine go_op rfl ?_ | refine go_nil ?_ | refine go_hit rfl rfl rfl ?_ | refine go_splitT rfl rfl rfl (fun h => ?_) (fun h => ?_) | refine go_splitF rfl rfl rfl (fun h => ?_) (fun h => ?_) | refine go_dop rfl ?_ | refine go_dhit rfl rfl ?_ | refine go_dmiss rfl rfl ?_ | refine go_dundef rfl rfl ?_ | refine go_dend (by kernel_rfl) ?_ | refine go_pickT rfl ?_ | refine go_pickF rfl ?_ | refine go_pick rfl (fun h => ?_) (fun h => ?_) | refine go_call [] (hg) rfl rfl rfl rfl ?_) <;> conv => whnf) | ((first | refine go_dsplit2 rfl (fun h => ?_) (fun h => ?_) | refine go_loadB ?_ | refine ⟨by kernel_rfl, ?_⟩ | refine go_ret ?_) <;> conv => whnf) | refine go_block ?_ | ((first | refine go_skip ?_ | refine go_exit ?_) <;> conv => whnf) | refine go_true rfl ?_ | refine go_false rfl ?_ | refine go_cond rfl (fun h => ?_) (fun h => ?_) | refine ⟨rfl, ?_⟩ | ((first | refine ⟨trivial, ?_⟩ | refine ⟨le_of_ble rfl, ?_⟩) <;> conv => whnf) | fail
  · exfalso; have h' := of_decide_eq_true h; omega
  refine go_loop (α := Nat) (fun i => i ≤ rs.length ∧ upI (repAt t rs) rs i = true) (fun i => rs.length - i)
    (fun i => st Tryz.f82.ntmps [(1, .imm (.list (rs.map Report.enc))), (2, .box 1000 0), (5, .imm (.int .i64 (i : Nat)))] [(1000, .box 40 (t.enc.map .imm))] []) 0
    ⟨Nat.zero_le _, rfl⟩ (ref_st (fun _ => nid 1 2) rfl ⟨rfl, ⟨rfl, rfl⟩, rfl, trivial⟩ ⟨⟨rfl, wavs_imm _⟩, trivial⟩ (by simp) rfl (by simp)) ?_
  rintro i ⟨hi, ha⟩
  cases hx : rs[i]? with
  | none =>
    have hge := le_of_at hx
    repeat' first | refine go_seq ?_ | refine go_region ?_ | refine go_miss rfl rfl rfl ?_ | refine go_undef rfl rfl rfl ?_ | refine go_draw drawsOk ?_ | ((first | refine go_op rfl ?_ | refine go_nil ?_ | refine go_hit rfl rfl rfl ?_ | refine go_splitT rfl rfl rfl (fun h => ?_) (fun h => ?_) | refine go_splitF rfl rfl rfl (fun h => ?_) (fun h => ?_) | refine go_dop rfl ?_ | refine go_dhit rfl rfl ?_ | refine go_dmiss rfl rfl ?_ | refine go_dundef rfl rfl ?_ | refine go_dend (by kernel_rfl) ?_ | refine go_pickT rfl ?_ | refine go_pickF rfl ?_ | refine go_pick rfl (fun h => ?_) (fun h => ?_)) <;> conv => whnf) | ((first | refine go_dsplit2 rfl (fun h => ?_) (fun h => ?_) | refine go_loadB ?_ | refine ⟨by kernel_rfl, ?_⟩ | refine go_ret ?_) <;> conv => whnf) | refine go_block ?_ | ((first | refine go_skip ?_ | refine go_exit ?_) <;> conv => whnf) | refine go_true rfl ?_ | refine go_false rfl ?_ | refine go_cond rfl (fun h => ?_) (fun h => ?_) | refine ⟨rfl, ?_⟩ | ((first | refine ⟨trivial, ?_⟩ | refine ⟨le_of_ble rfl, ?_⟩) <;> conv => whnf) | fail
    all_goals first
      | (exfalso; have h' := of_decide_eq_false h; omega)
      | (exfalso; have h' := of_decide_eq_true h; omega)
      | (exfalso; rename_i hq; have h' := of_decide_eq_true hq; omega)
      | (exfalso; rename_i hq; have h' := of_decide_eq_false hq; omega)
      | (exfalso; rename_i hq _; have h' := of_decide_eq_true hq; omega)
      | (exfalso; rename_i hq _; have h' := of_decide_eq_false hq; omega)
      | exact ret_imm rfl rfl rfl rfl (by rw [allI_end hge ha]) rfl
  | some x =>
    have hlt := lt_of_at hx
    have hrw := row_at Report.enc hx
    have hc1 := c119 t hf (ttOk_net hn) x
    cases b0 : repOk t x with
    | false =>
      rw [b0] at hc1
      repeat' first | refine go_seq ?_ | refine go_region ?_ | refine go_miss rfl rfl rfl ?_ | refine go_undef rfl rfl rfl ?_ | refine go_draw drawsOk ?_ | ((first | refine go_op rfl ?_ | refine go_nil ?_ | refine go_hit rfl rfl rfl ?_ | refine go_splitT rfl rfl rfl (fun h => ?_) (fun h => ?_) | refine go_splitF rfl rfl rfl (fun h => ?_) (fun h => ?_) | refine go_dop rfl ?_ | refine go_dhit rfl rfl ?_ | refine go_dmiss rfl rfl ?_ | refine go_dundef rfl rfl ?_ | refine go_dend (by kernel_rfl) ?_ | refine go_pickT rfl ?_ | refine go_pickF rfl ?_ | refine go_pick rfl (fun h => ?_) (fun h => ?_) | refine go_call [] (hc1) rfl rfl rfl rfl ?_ | refine go_idx rfl rfl rfl rfl (by omega) hrw rfl ?_) <;> conv => whnf) | ((first | refine go_dsplit2 rfl (fun h => ?_) (fun h => ?_) | refine go_loadB ?_ | refine ⟨by kernel_rfl, ?_⟩ | refine go_ret ?_) <;> conv => whnf) | refine go_block ?_ | ((first | refine go_skip ?_ | refine go_exit ?_) <;> conv => whnf) | refine go_true rfl ?_ | refine go_false rfl ?_ | refine go_cond rfl (fun h => ?_) (fun h => ?_) | refine ⟨rfl, ?_⟩ | ((first | refine ⟨trivial, ?_⟩ | refine ⟨le_of_ble rfl, ?_⟩) <;> conv => whnf) | fail
      all_goals first
        | (exfalso; have h' := of_decide_eq_false h; omega)
        | (exfalso; have h' := of_decide_eq_true h; omega)
        | (exfalso; rename_i hq; have h' := of_decide_eq_true hq; omega)
        | (exfalso; rename_i hq; have h' := of_decide_eq_false hq; omega)
        | (exfalso; rename_i hq _; have h' := of_decide_eq_true hq; omega)
        | (exfalso; rename_i hq _; have h' := of_decide_eq_false hq; omega)
        | (refine ret_imm rfl rfl rfl rfl ?_ rfl; rw [show allI (repAt t rs) rs = false from allI_not hx (by unfold repAt; rw [b0]; rfl)]; done)
    | true =>
      rw [b0] at hc1
      by_cases hi0 : i = 0
      case pos =>
        repeat' first | refine go_seq ?_ | refine go_region ?_ | refine go_miss rfl rfl rfl ?_ | refine go_undef rfl rfl rfl ?_ | refine go_draw drawsOk ?_ | ((first | refine go_op rfl ?_ | refine go_nil ?_ | refine go_hit rfl rfl rfl ?_ | refine go_splitT rfl rfl rfl (fun h => ?_) (fun h => ?_) | refine go_splitF rfl rfl rfl (fun h => ?_) (fun h => ?_) | refine go_dop rfl ?_ | refine go_dhit rfl rfl ?_ | refine go_dmiss rfl rfl ?_ | refine go_dundef rfl rfl ?_ | refine go_dend (by kernel_rfl) ?_ | refine go_pickT rfl ?_ | refine go_pickF rfl ?_ | refine go_pick rfl (fun h => ?_) (fun h => ?_) | refine go_call [] (hc1) rfl rfl rfl rfl ?_ | refine go_idx rfl rfl rfl rfl (by omega) hrw rfl ?_) <;> conv => whnf) | ((first | refine go_dsplit2 rfl (fun h => ?_) (fun h => ?_) | refine go_loadB ?_ | refine ⟨by kernel_rfl, ?_⟩ | refine go_ret ?_) <;> conv => whnf) | refine go_block ?_ | ((first | refine go_skip ?_ | refine go_exit ?_) <;> conv => whnf) | refine go_true rfl ?_ | refine go_false rfl ?_ | refine go_cond rfl (fun h => ?_) (fun h => ?_) | refine ⟨rfl, ?_⟩ | ((first | refine ⟨trivial, ?_⟩ | refine ⟨le_of_ble rfl, ?_⟩) <;> conv => whnf) | fail
        all_goals first
          | (exfalso; have h' := of_decide_eq_false h; omega)
          | (exfalso; have h' := of_decide_eq_true h; omega)
          | (exfalso; rename_i hq; have h' := of_decide_eq_true hq; omega)
          | (exfalso; rename_i hq; have h' := of_decide_eq_false hq; omega)
          | (exfalso; rename_i hq _; have h' := of_decide_eq_true hq; omega)
          | (exfalso; rename_i hq _; have h' := of_decide_eq_false hq; omega)
          | exact go_next (i + 1) ⟨by omega, upI_next hx ha (by unfold repAt; rw [b0, hi0]; rfl)⟩ (by omega) (ref_st id rfl ⟨rfl, ⟨rfl, rfl⟩, next_i (by omega), trivial⟩ ⟨⟨rfl, wavs_imm _⟩, trivial⟩ (by simp) rfl (by simp))
      case neg =>
        obtain ⟨y, hy⟩ : ∃ y, rs[i - 1]? = some y := ⟨_, List.getElem?_eq_getElem (by omega)⟩
        have hbe := behind_eq (r := x) hi0 hy
        have hw1 : IntKind.i64.wrap (((i : Nat) : Int) - 1) = ((i - 1 : Nat) : Int) := by rw [wrap_small (by omega) (by omega)]; omega
        have hry : (rs.map Report.enc)[(IntKind.i64.wrap (((i : Nat) : Int) - 1)).toNat]? = some y.enc := by rw [hw1, Int.toNat_natCast, List.getElem?_map, hy]; rfl
        have hw0 : 0 ≤ IntKind.i64.wrap (((i : Nat) : Int) - 1) := by rw [hw1]; omega
        by_cases hlt2 : y.time < x.time ∨ (y.time = x.time ∧ y.vehicle < x.vehicle)
        case pos =>
          have hat : repAt t rs i x = true := by unfold repAt; rw [b0, hbe]; simpa using hlt2
          repeat' first | refine go_seq ?_ | refine go_region ?_ | refine go_miss rfl rfl rfl ?_ | refine go_undef rfl rfl rfl ?_ | refine go_draw drawsOk ?_ | ((first | refine go_op rfl ?_ | refine go_nil ?_ | refine go_hit rfl rfl rfl ?_ | refine go_splitT rfl rfl rfl (fun h => ?_) (fun h => ?_) | refine go_splitF rfl rfl rfl (fun h => ?_) (fun h => ?_) | refine go_dop rfl ?_ | refine go_dhit rfl rfl ?_ | refine go_dmiss rfl rfl ?_ | refine go_dundef rfl rfl ?_ | refine go_dend (by kernel_rfl) ?_ | refine go_pickT rfl ?_ | refine go_pickF rfl ?_ | refine go_pick rfl (fun h => ?_) (fun h => ?_) | refine go_call [] (hc1) rfl rfl rfl rfl ?_ | refine go_idx rfl rfl rfl rfl (by omega) hrw rfl ?_ | refine go_idx rfl rfl rfl rfl hw0 hry rfl ?_) <;> conv => whnf) | ((first | refine go_dsplit2 rfl (fun h => ?_) (fun h => ?_) | refine go_loadB ?_ | refine ⟨by kernel_rfl, ?_⟩ | refine go_ret ?_) <;> conv => whnf) | refine go_block ?_ | ((first | refine go_skip ?_ | refine go_exit ?_) <;> conv => whnf) | refine go_true rfl ?_ | refine go_false rfl ?_ | refine go_cond rfl (fun h => ?_) (fun h => ?_) | refine ⟨rfl, ?_⟩ | ((first | refine ⟨trivial, ?_⟩ | refine ⟨le_of_ble rfl, ?_⟩) <;> conv => whnf) | fail
          all_goals first
            | (exfalso; have h' := of_decide_eq_false h; omega)
            | (exfalso; have h' := of_decide_eq_true h; omega)
            | (exfalso; rename_i hq; have h' := of_decide_eq_true hq; omega)
            | (exfalso; rename_i hq; have h' := of_decide_eq_false hq; omega)
            | (exfalso; rename_i hq _; have h' := of_decide_eq_true hq; omega)
            | (exfalso; rename_i hq _; have h' := of_decide_eq_false hq; omega)
            | exact go_next (i + 1) ⟨by omega, upI_next hx ha hat⟩ (by omega) (ref_st id rfl ⟨rfl, ⟨rfl, rfl⟩, next_i (by omega), trivial⟩ ⟨⟨rfl, wavs_imm _⟩, trivial⟩ (by simp) rfl (by simp))
            | (exfalso; simp only [decide_eq_true_eq, decide_eq_false_iff_not] at *; omega)
            | trace_state
        case neg =>
          have hat : repAt t rs i x = false := by unfold repAt; rw [b0, hbe]; simpa using hlt2
          repeat' first | refine go_seq ?_ | refine go_region ?_ | refine go_miss rfl rfl rfl ?_ | refine go_undef rfl rfl rfl ?_ | refine go_draw drawsOk ?_ | ((first | refine go_op rfl ?_ | refine go_nil ?_ | refine go_hit rfl rfl rfl ?_ | refine go_splitT rfl rfl rfl (fun h => ?_) (fun h => ?_) | refine go_splitF rfl rfl rfl (fun h => ?_) (fun h => ?_) | refine go_dop rfl ?_ | refine go_dhit rfl rfl ?_ | refine go_dmiss rfl rfl ?_ | refine go_dundef rfl rfl ?_ | refine go_dend (by kernel_rfl) ?_ | refine go_pickT rfl ?_ | refine go_pickF rfl ?_ | refine go_pick rfl (fun h => ?_) (fun h => ?_) | refine go_call [] (hc1) rfl rfl rfl rfl ?_ | refine go_idx rfl rfl rfl rfl (by omega) hrw rfl ?_ | refine go_idx rfl rfl rfl rfl hw0 hry rfl ?_) <;> conv => whnf) | ((first | refine go_dsplit2 rfl (fun h => ?_) (fun h => ?_) | refine go_loadB ?_ | refine ⟨by kernel_rfl, ?_⟩ | refine go_ret ?_) <;> conv => whnf) | refine go_block ?_ | ((first | refine go_skip ?_ | refine go_exit ?_) <;> conv => whnf) | refine go_true rfl ?_ | refine go_false rfl ?_ | refine go_cond rfl (fun h => ?_) (fun h => ?_) | refine ⟨rfl, ?_⟩ | ((first | refine ⟨trivial, ?_⟩ | refine ⟨le_of_ble rfl, ?_⟩) <;> conv => whnf) | fail
          all_goals first
            | (exfalso; have h' := of_decide_eq_false h; omega)
            | (exfalso; have h' := of_decide_eq_true h; omega)
            | (exfalso; rename_i hq; have h' := of_decide_eq_true hq; omega)
            | (exfalso; rename_i hq; have h' := of_decide_eq_false hq; omega)
            | (exfalso; rename_i hq _; have h' := of_decide_eq_true hq; omega)
            | (exfalso; rename_i hq _; have h' := of_decide_eq_false hq; omega)
            | (refine ret_imm rfl rfl rfl rfl ?_ rfl; rw [show allI (repAt t rs) rs = false from allI_not hx hat]; done)
            | (exfalso; simp only [decide_eq_true_eq, decide_eq_false_iff_not] at *; omega)
            | trace_state

end Go.Proofs.YtmbaalkeogckbaaGreat


