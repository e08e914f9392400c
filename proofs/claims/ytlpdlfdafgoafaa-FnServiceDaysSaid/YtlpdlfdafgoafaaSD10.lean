/- Calendars: FitCalendar: the program's side. -/
import Derived.Test.YtlpdlfdafgoafaaSD9
import Derived.Test.YtlpdlfdafgoafaaAmV
import Derived.Test.YtlpdlfdafgoafaaAmN
import Derived.Test.YtlpdlfdafgoafaaAmF
namespace Go.Proofs.Ytlpdlfdafgoafaa
open Go Go.Am Go.SD
set_option maxRecDepth 100000
set_option maxHeartbeats 8000000

theorem go_loadBoxI {T : TypeId → Option TI} {m : Nat → Option O} {tt : TypeId} {K : Eff → Prop} {id off : Nat} {ty : TypeId} {cells : List AV} {ti : TI} {x : AV} (j : Nat) {d : D} (hx : x = .box id off) (hj : off = j) (hm : m id = some (.box ty cells)) (hT : T tt = some ti)
    (ha : ti.agg = false) (hc : cells[j]? = some (.imm d)) (h : K ⟨.imm d, []⟩) : opLoad T m tt x K := by
  subst hx hj
  unfold opLoad
  simp only [hT, hm, ha, hc]
  exact h

/-- Seven numbers. -/
def cel7 (f : Nat → Int) : List D := [.int .i64 (f 0), .int .i64 (f 1), .int .i64 (f 2), .int .i64 (f 3), .int .i64 (f 4), .int .i64 (f 5), .int .i64 (f 6)]
theorem cel7_at (f : Nat → Int) {k : Nat} (hk : k < 7) : ((cel7 f).map AV.imm)[k]? = some (.imm (.int .i64 (f k))) := by
  have : k = 0 ∨ k = 1 ∨ k = 2 ∨ k = 3 ∨ k = 4 ∨ k = 5 ∨ k = 6 := by omega
  rcases this with rfl | rfl | rfl | rfl | rfl | rfl | rfl <;> rfl
theorem cel7_set {f g : Nat → Int} {k : Nat} (hk : k < 7) (h : ∀ w, w ≠ k → g w = f w) {x : Int} (hx : x = g k) : setAt ((cel7 f).map AV.imm) (0 + k * 1) [.imm (.int .i64 x)] = (cel7 g).map AV.imm := by
  subst hx
  have : k = 0 ∨ k = 1 ∨ k = 2 ∨ k = 3 ∨ k = 4 ∨ k = 5 ∨ k = 6 := by omega
  rcases this with rfl | rfl | rfl | rfl | rfl | rfl | rfl <;> simp [setAt, cel7, h]

def calZ : Cal := ⟨0, 0, 0, [], []⟩
def spanF (fro to : Int) : Nat := (to + 1 - fro).toNat
/-- What must hold of the days to which a calendar is fitted. -/
def ftV (fro to : Int) (days : List Int) : Bool := inR fro 0 3650 && (inR to 0 3650 && (decide (fro ≤ to) && (decide (to - fro ≤ 200) && ascI (fro - 1) days to)))
def ftC (fro to : Int) (days : List Int) : Cal := fitC fro to (wdF days fro (spanF fro to)) days
def ftB (fro to : Int) (days : List Int) : Bool := ftV fro to days && validC (ftC fro to days)
def ftR (fro to : Int) (days : List Int) : Cal := if ftB fro to days then ftC fro to days else calZ

/-- The exceptions among the first j days. -/
def adN (days : List Int) (fro wd : Int) (j : Nat) : List Int := (rngN fro j).filter fun d => days.contains d && !byW wd d
def rmN (days : List Int) (fro wd : Int) (j : Nat) : List Int := (rngN fro j).filter fun d => !days.contains d && byW wd d
theorem adN_len (days : List Int) (fro wd : Int) (j : Nat) : (adN days fro wd j).length ≤ j := by
  have := List.length_filter_le (fun d => days.contains d && !byW wd d) (rngN fro j); rwa [rngN_len] at this
theorem rmN_len (days : List Int) (fro wd : Int) (j : Nat) : (rmN days fro wd j).length ≤ j := by
  have := List.length_filter_le (fun d => !days.contains d && byW wd d) (rngN fro j); rwa [rngN_len] at this
theorem fl2 (p : Int → Bool) (x : Int) : [x].filter p = if p x = true then [x] else [] := by
  cases h : p x <;> simp [h]
theorem adN_next (days : List Int) (fro wd : Int) (j : Nat) : adN days fro wd (j + 1) = adN days fro wd j ++ if days.contains (fro + j) && !byW wd (fro + j) then [fro + (j : Int)] else [] := by
  unfold adN; rw [rngN_snoc, List.filter_append, fl2]
theorem rmN_next (days : List Int) (fro wd : Int) (j : Nat) : rmN days fro wd (j + 1) = rmN days fro wd j ++ if !days.contains (fro + j) && byW wd (fro + j) then [fro + (j : Int)] else [] := by
  unfold rmN; rw [rngN_snoc, List.filter_append, fl2]

/-- The last loop's states: s is the slot of the calendar that grows. -/
def ftOwn (N s : Nat) (fro to wd : Int) (days : List Int) (j : Nat) : S :=
  st N [(1, .imm (.int .i64 to)), (2, .imm (.list (days.map intRow))), (6, .box 1000 0), (s, .box 1003 0), (13, .imm (.int .i64 (fro + (j : Nat))))]
    [(1000, .box 28 ((calE calZ).map .imm)), (1001, .arr 3 1 ((adN days fro wd j).map intRow)), (1002, .arr 3 1 ((rmN days fro wd j).map intRow)),
     (1003, .box 28 [.imm (.int .i64 fro), .imm (.int .i64 to), .imm (.int .i64 wd), .own 1001 0 ((adN days fro wd j).map intRow).length, .own 1002 0 ((rmN days fro wd j).map intRow).length])] []
def ftFrz (N s : Nat) (fro to wd : Int) (days : List Int) (j : Nat) : S :=
  st N [(1, .imm (.int .i64 to)), (2, .imm (.list (days.map intRow))), (6, .box 1000 0), (s, .box 1003 0), (13, .imm (.int .i64 (fro + (j : Nat))))]
    [(1000, .box 28 ((calE calZ).map .imm)), (1003, .box 28 ((calE ⟨fro, to, wd, adN days fro wd j, rmN days fro wd j⟩).map .imm))] []
theorem ft_frz (N s : Nat) (hs : s = 8 ∨ s = 11) (fro to wd : Int) (days : List Int) (j : Nat) : Ref (ftOwn N s fro to wd days j) (ftFrz N s fro to wd days j) := by
  refine Ref.trans (ref_freezeBox (b := 1003) (id := 1001) (j := 3) rfl rfl rfl) ?_
  refine Ref.trans (ref_freezeBox (b := 1003) (id := 1002) (j := 4) rfl rfl rfl) ?_
  rcases hs with rfl | rfl
  all_goals
    refine ref_st id rfl ⟨rfl, rfl, ⟨rfl, rfl⟩, ⟨rfl, rfl⟩, rfl, trivial⟩ ⟨⟨rfl, wavs_imm _⟩, ⟨rfl, rfl, rfl, rfl, ?_, ?_, trivial⟩, trivial⟩ (by simp) rfl (by simp)
    · show AV.imm _ = AV.imm _
      rw [List.drop_zero, List.take_length]
    · show AV.imm _ = AV.imm _
      rw [List.drop_zero, List.take_length]
theorem ft_F {N s : Nat} (hs : s = 8 ∨ s = 11) {fro to wd : Int} {days : List Int} {j n : Nat} {σ : S} (h : Ref σ (ftOwn N s fro to wd days j)) : Ref σ (if j < n then ftOwn N s fro to wd days j else ftFrz N s fro to wd days j) := by
  split
  · exact h
  · exact Ref.trans h (ft_frz N s hs fro to wd days j)

attribute [local irreducible] amOps amC opCall opIndexAddr opPick retQ opMake opStore amDraw opAppend opLoad opNilCmp opIndex opSlice

theorem c6 (fro to : Int) (days : List Int) (hl : days.length ≤ 1048576) : CallOk Try.prog 6 [.imm (.int .i64 fro), .imm (.int .i64 to), .imm (.list (days.map intRow))]
    { res := [.imm (.agg (calE (ftR fro to days))), .imm (.bool (ftB fro to days))], sep := false } := by
  refine callOk_of tyOk Try.func6 rfl rfl (le_of_ble rfl) (le_of_ble rfl) (mutOk_imm rfl _) ?_
  have h1 := c22 fro
  have h2 := c22 to
  cases hV : ftV fro to days with
  | false =>
    have e1 : ftB fro to days = false := by unfold ftB; rw [hV]; rfl
    have e2 : ftR fro to days = calZ := by unfold ftR; rw [e1]; rfl
    rw [e1, e2]
    cases b1 : inR fro 0 3650 with
    | false =>
      rw [b1] at h1
      repeat' first | refine go_seq ?_ | refine go_region ?_ | refine go_miss rfl rfl rfl ?_ | refine go_undef rfl rfl rfl ?_ | refine go_draw drawsOk ?_ | ((first | refine go_op rfl ?_ | refine go_nil ?_ | refine go_hit rfl rfl rfl ?_ | refine go_splitT rfl rfl rfl (fun h => ?_) (fun h => ?_) | refine go_splitF rfl rfl rfl (fun h => ?_) (fun h => ?_) | refine go_storeBox rfl rfl rfl rfl rfl rfl ?_ | refine go_dop rfl ?_ | refine go_dhit rfl rfl ?_ | refine go_dmiss rfl rfl ?_ | refine go_dundef rfl rfl ?_ | refine go_dend (by kernel_rfl) ?_ | refine go_pickT rfl ?_ | refine go_pickF rfl ?_ | refine go_pick rfl (fun h => ?_) (fun h => ?_) | refine go_call [] (h1) rfl rfl rfl rfl ?_ | refine go_call [] (h2) rfl rfl rfl rfl ?_) <;> conv => whnf) | ((first | refine Or.inl ?_ | refine go_dsplit2 rfl (fun h => ?_) (fun h => ?_) | refine go_loadB ?_ | refine ⟨by kernel_rfl, ?_⟩ | refine go_ret ?_) <;> conv => whnf) | refine go_block ?_ | ((first | refine go_skip ?_ | refine go_exit ?_) <;> conv => whnf) | refine go_true rfl ?_ | refine go_false rfl ?_ | refine go_cond rfl (fun h => ?_) (fun h => ?_) | refine ⟨rfl, ?_⟩ | ((first | refine ⟨trivial, ?_⟩ | refine ⟨le_of_ble rfl, ?_⟩) <;> conv => whnf) | fail
      all_goals exact ret_all rfl ⟨⟨rfl, fun h => by cases h⟩, ⟨rfl, fun h => by cases h⟩, trivial⟩ List.nodup_nil List.nodup_nil trivial
    | true =>
      rw [b1] at h1
      cases b2 : inR to 0 3650 with
      | false =>
        rw [b2] at h2
        repeat' first | refine go_seq ?_ | refine go_region ?_ | refine go_miss rfl rfl rfl ?_ | refine go_undef rfl rfl rfl ?_ | refine go_draw drawsOk ?_ | ((first | refine go_op rfl ?_ | refine go_nil ?_ | refine go_hit rfl rfl rfl ?_ | refine go_splitT rfl rfl rfl (fun h => ?_) (fun h => ?_) | refine go_splitF rfl rfl rfl (fun h => ?_) (fun h => ?_) | refine go_storeBox rfl rfl rfl rfl rfl rfl ?_ | refine go_dop rfl ?_ | refine go_dhit rfl rfl ?_ | refine go_dmiss rfl rfl ?_ | refine go_dundef rfl rfl ?_ | refine go_dend (by kernel_rfl) ?_ | refine go_pickT rfl ?_ | refine go_pickF rfl ?_ | refine go_pick rfl (fun h => ?_) (fun h => ?_) | refine go_call [] (h1) rfl rfl rfl rfl ?_ | refine go_call [] (h2) rfl rfl rfl rfl ?_) <;> conv => whnf) | ((first | refine Or.inl ?_ | refine go_dsplit2 rfl (fun h => ?_) (fun h => ?_) | refine go_loadB ?_ | refine ⟨by kernel_rfl, ?_⟩ | refine go_ret ?_) <;> conv => whnf) | refine go_block ?_ | ((first | refine go_skip ?_ | refine go_exit ?_) <;> conv => whnf) | refine go_true rfl ?_ | refine go_false rfl ?_ | refine go_cond rfl (fun h => ?_) (fun h => ?_) | refine ⟨rfl, ?_⟩ | ((first | refine ⟨trivial, ?_⟩ | refine ⟨le_of_ble rfl, ?_⟩) <;> conv => whnf) | fail
        all_goals exact ret_all rfl ⟨⟨rfl, fun h => by cases h⟩, ⟨rfl, fun h => by cases h⟩, trivial⟩ List.nodup_nil List.nodup_nil trivial
      | true =>
        rw [b2] at h2
        have k1 : 0 ≤ fro ∧ fro ≤ 3650 := by simpa [inR] using b1
        have k2 : 0 ≤ to ∧ to ≤ 3650 := by simpa [inR] using b2
        have hw : IntKind.i64.wrap (to - fro) = to - fro := wrap_small (by omega) (by omega)
        have h3 := c23 days hl fro to (by omega)
        have h4 : (fro ≤ to ∧ to - fro ≤ 200) → ascI (fro - 1) days to = false := fun ⟨x, y⟩ => by
          unfold ftV at hV
          rw [b1, b2, decide_eq_true x, decide_eq_true y] at hV
          exact hV
        cases b3 : ascI (fro - 1) days to with
        | false =>
          rw [b3] at h3
          repeat' first | refine go_seq ?_ | refine go_region ?_ | refine go_miss rfl rfl rfl ?_ | refine go_undef rfl rfl rfl ?_ | refine go_draw drawsOk ?_ | ((first | refine go_op rfl ?_ | refine go_nil ?_ | refine go_hit rfl rfl rfl ?_ | refine go_splitT rfl rfl rfl (fun h => ?_) (fun h => ?_) | refine go_splitF rfl rfl rfl (fun h => ?_) (fun h => ?_) | refine go_storeBox rfl rfl rfl rfl rfl rfl ?_ | refine go_dop rfl ?_ | refine go_dhit rfl rfl ?_ | refine go_dmiss rfl rfl ?_ | refine go_dundef rfl rfl ?_ | refine go_dend (by kernel_rfl) ?_ | refine go_pickT rfl ?_ | refine go_pickF rfl ?_ | refine go_pick rfl (fun h => ?_) (fun h => ?_) | refine go_call [] (h1) rfl rfl rfl rfl ?_ | refine go_call [] (h2) rfl rfl rfl rfl ?_ | refine go_call [] (h3) rfl rfl rfl rfl ?_) <;> conv => whnf) | ((first | refine Or.inl ?_ | refine go_dsplit2 rfl (fun h => ?_) (fun h => ?_) | refine go_loadB ?_ | refine ⟨by kernel_rfl, ?_⟩ | refine go_ret ?_) <;> conv => whnf) | refine go_block ?_ | ((first | refine go_skip ?_ | refine go_exit ?_) <;> conv => whnf) | refine go_true rfl ?_ | refine go_false rfl ?_ | refine go_cond rfl (fun h => ?_) (fun h => ?_) | refine ⟨rfl, ?_⟩ | ((first | refine ⟨trivial, ?_⟩ | refine ⟨le_of_ble rfl, ?_⟩) <;> conv => whnf) | fail
          all_goals exact ret_all rfl ⟨⟨rfl, fun h => by cases h⟩, ⟨rfl, fun h => by cases h⟩, trivial⟩ List.nodup_nil List.nodup_nil trivial
        | true =>
          rw [b3] at h3
          have h5 : ¬ (fro ≤ to ∧ to - fro ≤ 200) := fun h => by rw [h4 h] at b3; cases b3
          repeat' first | refine go_seq ?_ | refine go_region ?_ | refine go_miss rfl rfl rfl ?_ | refine go_undef rfl rfl rfl ?_ | refine go_draw drawsOk ?_ | ((first | refine go_op rfl ?_ | refine go_nil ?_ | refine go_hit rfl rfl rfl ?_ | refine go_splitT rfl rfl rfl (fun h => ?_) (fun h => ?_) | refine go_splitF rfl rfl rfl (fun h => ?_) (fun h => ?_) | refine go_storeBox rfl rfl rfl rfl rfl rfl ?_ | refine go_dop rfl ?_ | refine go_dhit rfl rfl ?_ | refine go_dmiss rfl rfl ?_ | refine go_dundef rfl rfl ?_ | refine go_dend (by kernel_rfl) ?_ | refine go_pickT rfl ?_ | refine go_pickF rfl ?_ | refine go_pick rfl (fun h => ?_) (fun h => ?_) | refine go_call [] (h1) rfl rfl rfl rfl ?_ | refine go_call [] (h2) rfl rfl rfl rfl ?_ | refine go_call [] (h3) rfl rfl rfl rfl ?_) <;> conv => whnf) | ((first | refine Or.inl ?_ | refine go_dsplit2 rfl (fun h => ?_) (fun h => ?_) | refine go_loadB ?_ | refine ⟨by kernel_rfl, ?_⟩ | refine go_ret ?_) <;> conv => whnf) | refine go_block ?_ | ((first | refine go_skip ?_ | refine go_exit ?_) <;> conv => whnf) | refine go_true rfl ?_ | refine go_false rfl ?_ | refine go_cond rfl (fun h => ?_) (fun h => ?_) | refine ⟨rfl, ?_⟩ | ((first | refine ⟨trivial, ?_⟩ | refine ⟨le_of_ble rfl, ?_⟩) <;> conv => whnf) | fail
          all_goals first
            | exact ret_all rfl ⟨⟨rfl, fun h => by cases h⟩, ⟨rfl, fun h => by cases h⟩, trivial⟩ List.nodup_nil List.nodup_nil trivial
            | (exfalso; simp only [decide_eq_true_eq, decide_eq_false_iff_not, hw] at *; omega)
            | trace_state
  | true =>
  have hV' := hV
  simp only [ftV, inR, Bool.and_eq_true, decide_eq_true_eq] at hV'
  obtain ⟨k1, k2, k3, k4, k5⟩ := hV'
  have b1 : inR fro 0 3650 = true := by simp only [inR, Bool.and_eq_true, decide_eq_true_eq]; exact k1
  have b2 : inR to 0 3650 = true := by simp only [inR, Bool.and_eq_true, decide_eq_true_eq]; exact k2
  have hw : IntKind.i64.wrap (to - fro) = to - fro := wrap_small (by omega) (by omega)
  have h3 := c23 days hl fro to (by omega)
  rw [b1] at h1
  rw [b2] at h2
  rw [k5] at h3
  have hB : ftB fro to days = validC (ftC fro to days) := by unfold ftB; rw [hV]; rfl
  obtain ⟨n, hn⟩ : ∃ n, n = spanF fro to := ⟨_, rfl⟩
  have hnI : ((n : Nat) : Int) = to + 1 - fro := by rw [hn]; unfold spanF; omega
  repeat' first | refine go_seq ?_ | refine go_region ?_ | refine go_miss rfl rfl rfl ?_ | refine go_undef rfl rfl rfl ?_ | refine go_draw drawsOk ?_ | ((first | refine go_op rfl ?_ | refine go_nil ?_ | refine go_hit rfl rfl rfl ?_ | refine go_splitT rfl rfl rfl (fun h => ?_) (fun h => ?_) | refine go_splitF rfl rfl rfl (fun h => ?_) (fun h => ?_) | refine go_storeBox rfl rfl rfl rfl rfl rfl ?_ | refine go_dop rfl ?_ | refine go_dhit rfl rfl ?_ | refine go_dmiss rfl rfl ?_ | refine go_dundef rfl rfl ?_ | refine go_dend (by kernel_rfl) ?_ | refine go_pickT rfl ?_ | refine go_pickF rfl ?_ | refine go_pick rfl (fun h => ?_) (fun h => ?_) | refine go_call [] (h1) rfl rfl rfl rfl ?_ | refine go_call [] (h2) rfl rfl rfl rfl ?_ | refine go_call [] (h3) rfl rfl rfl rfl ?_) <;> conv => whnf) | ((first | refine Or.inl ?_ | refine go_dsplit2 rfl (fun h => ?_) (fun h => ?_) | refine go_loadB ?_ | refine ⟨by kernel_rfl, ?_⟩ | refine go_ret ?_) <;> conv => whnf) | refine go_block ?_ | ((first | refine go_skip ?_ | refine go_exit ?_) <;> conv => whnf) | refine go_true rfl ?_ | refine go_false rfl ?_ | refine go_cond rfl (fun h => ?_) (fun h => ?_) | refine ⟨rfl, ?_⟩ | ((first | refine ⟨trivial, ?_⟩ | refine ⟨le_of_ble rfl, ?_⟩) <;> conv => whnf) | fail
  all_goals try first
    | (exfalso; simp only [decide_eq_true_eq, decide_eq_false_iff_not, hw] at *; omega)
  refine go_loop (α := Nat) (fun j => j ≤ n) (fun j => n - j)
    (fun j => st Try.f6.ntmps [(0, .imm (.int .i64 fro)), (1, .imm (.int .i64 to)), (2, .imm (.list (days.map intRow))), (6, .box 1000 0), (8, .box 1001 0), (9, .box 1002 0), (10, .imm (.int .i64 (fro + (j : Nat))))]
      [(1000, .box 28 ((calE calZ).map .imm)), (1001, .box 53 ((cel7 fun w => (gvN days fro w j : Nat)).map .imm)), (1002, .box 53 ((cel7 fun w => (msN days fro w j : Nat)).map .imm))] []) 0 (Nat.zero_le _) ?_ ?_
  · refine ref_st (fun i => if i = 1000 then nid 1 6 else if i = 1001 then nid 3 8 else nid 3 9) rfl ⟨rfl, rfl, rfl, ⟨rfl, rfl⟩, ⟨rfl, rfl⟩, ⟨rfl, rfl⟩, ?_, trivial⟩ ⟨⟨rfl, wavs_imm _⟩, ⟨rfl, wavs_imm (cel7 fun w => (gvN days fro w 0 : Nat))⟩, ⟨rfl, wavs_imm (cel7 fun w => (msN days fro w 0 : Nat))⟩, trivial⟩ (by simp [nid]) rfl (by simp)
    show AV.imm (.int .i64 fro) = .imm (.int .i64 (fro + ((0 : Nat) : Int)))
    rw [Int.natCast_zero, Int.add_zero]
  intro j hj
  by_cases hlast : j = n
  · subst hlast
    clear h1 h2 h3
    repeat' first | refine go_seq ?_ | refine go_region ?_ | refine go_miss rfl rfl rfl ?_ | refine go_undef rfl rfl rfl ?_ | refine go_draw drawsOk ?_ | ((first | refine go_op rfl ?_ | refine go_nil ?_ | refine go_hit rfl rfl rfl ?_ | refine go_splitT rfl rfl rfl (fun h => ?_) (fun h => ?_) | refine go_splitF rfl rfl rfl (fun h => ?_) (fun h => ?_) | refine go_storeBox rfl rfl rfl rfl rfl rfl ?_ | refine go_dop rfl ?_ | refine go_dhit rfl rfl ?_ | refine go_dmiss rfl rfl ?_ | refine go_dundef rfl rfl ?_ | refine go_dend (by kernel_rfl) ?_ | refine go_pickT rfl ?_ | refine go_pickF rfl ?_ | refine go_pick rfl (fun h => ?_) (fun h => ?_) | refine Or.inr ?_) <;> conv => whnf) | ((first | refine Or.inl ?_ | refine go_dsplit2 rfl (fun h => ?_) (fun h => ?_) | refine go_loadB ?_ | refine ⟨by kernel_rfl, ?_⟩ | refine go_ret ?_) <;> conv => whnf) | refine go_block ?_ | ((first | refine go_skip ?_ | refine go_exit ?_) <;> conv => whnf) | refine go_true rfl ?_ | refine go_false rfl ?_ | refine go_cond rfl (fun h => ?_) (fun h => ?_) | refine ⟨rfl, ?_⟩ | ((first | refine ⟨trivial, ?_⟩ | refine ⟨le_of_ble rfl, ?_⟩) <;> conv => whnf) | fail
    all_goals try first
      | (exfalso; simp only [decide_eq_true_eq, decide_eq_false_iff_not] at *; omega)
    obtain ⟨wd, hwd⟩ : ∃ wd, wd = wdF days fro j := ⟨_, rfl⟩
    refine go_loop (α := Nat) (fun i => i ≤ 7) (fun i => 7 - i)
      (fun i => st Try.f6.ntmps [(0, .imm (.int .i64 fro)), (1, .imm (.int .i64 to)), (2, .imm (.list (days.map intRow))), (6, .box 1000 0), (8, .box 1001 0), (9, .box 1002 0), (11, .box 1003 0), (66, .imm (.int .i64 (i : Nat)))]
        [(1000, .box 28 ((calE calZ).map .imm)), (1001, .box 53 ((cel7 fun w => (gvN days fro w j : Nat)).map .imm)), (1002, .box 53 ((cel7 fun w => (msN days fro w j : Nat)).map .imm)),
         (1003, .box 28 [.imm (.int .i64 fro), .imm (.int .i64 to), .imm (.int .i64 (wdN (mostW days fro j) i : Nat)), .imm (.other (.slice none 0 0)), .imm (.other (.slice none 0 0))])] []) 0 (Nat.zero_le _) ?_ ?_
    · exact ref_st (fun i => if i = 1003 then nid 3 11 else i) rfl ⟨rfl, rfl, rfl, ⟨rfl, rfl⟩, ⟨rfl, rfl⟩, ⟨rfl, rfl⟩, ⟨rfl, rfl⟩, rfl, trivial⟩ ⟨⟨rfl, wavs_imm _⟩, ⟨rfl, wavs_imm _⟩, ⟨rfl, wavs_imm _⟩, ⟨rfl, rfl, rfl, rfl, rfl, rfl, trivial⟩, trivial⟩ (by simp [nid]) rfl (by simp)
    intro i hi
    by_cases hi7 : i = 7
    · subst hi7
      have hwd' : ((wdN (mostW days fro j) 7 : Nat) : Int) = wd := hwd.symm
      rw [hwd']
      have hwr := wdF_in days fro j
      rw [← hwd] at hwr
      repeat' first | refine go_seq ?_ | refine go_region ?_ | refine go_miss rfl rfl rfl ?_ | refine go_undef rfl rfl rfl ?_ | refine go_draw drawsOk ?_ | ((first | refine go_op rfl ?_ | refine go_nil ?_ | refine go_hit rfl rfl rfl ?_ | refine go_splitT rfl rfl rfl (fun h => ?_) (fun h => ?_) | refine go_splitF rfl rfl rfl (fun h => ?_) (fun h => ?_) | refine go_storeBox rfl rfl rfl rfl rfl rfl ?_ | refine go_dop rfl ?_ | refine go_dhit rfl rfl ?_ | refine go_dmiss rfl rfl ?_ | refine go_dundef rfl rfl ?_ | refine go_dend (by kernel_rfl) ?_ | refine go_pickT rfl ?_ | refine go_pickF rfl ?_ | refine go_pick rfl (fun h => ?_) (fun h => ?_)) <;> conv => whnf) | ((first | refine Or.inl ?_ | refine go_dsplit2 rfl (fun h => ?_) (fun h => ?_) | refine go_loadB ?_ | refine ⟨by kernel_rfl, ?_⟩ | refine go_ret ?_) <;> conv => whnf) | refine go_block ?_ | ((first | refine go_skip ?_ | refine go_exit ?_) <;> conv => whnf) | refine go_true rfl ?_ | refine go_false rfl ?_ | refine go_cond rfl (fun h => ?_) (fun h => ?_) | refine ⟨rfl, ?_⟩ | ((first | refine ⟨trivial, ?_⟩ | refine ⟨le_of_ble rfl, ?_⟩) <;> conv => whnf) | fail
      all_goals try first
        | (exfalso; simp only [decide_eq_true_eq, decide_eq_false_iff_not] at *; omega)
      refine go_loop (α := Nat) (fun q => q ≤ j) (fun q => j - q) (fun q => if q < j then ftOwn Try.f6.ntmps 11 fro to wd days q else ftFrz Try.f6.ntmps 11 fro to wd days q) 0 (Nat.zero_le _) (ft_F (.inr rfl) ?_) ?_
      · refine Ref.trans (ref_nilBox (b := 1003) (q := 5001) (j := 3) (e := 3) (sz := 1) rfl rfl rfl (by decide)) ?_
        refine Ref.trans (ref_nilBox (b := 1003) (q := 5002) (j := 4) (e := 3) (sz := 1) rfl rfl rfl (by decide)) ?_
        refine ref_st (fun i => if i = 1001 then 5001 else if i = 1002 then 5002 else i) rfl ⟨rfl, rfl, ⟨rfl, rfl⟩, ⟨rfl, rfl⟩, ?_, trivial⟩ ⟨⟨rfl, wavs_imm _⟩, rfl, rfl, ⟨rfl, rfl, rfl, rfl, ⟨rfl, rfl⟩, ⟨rfl, rfl⟩, trivial⟩, trivial⟩ (by simp) rfl (by simp)
        show AV.imm (.int .i64 fro) = .imm (.int .i64 (fro + ((0 : Nat) : Int)))
        rw [Int.natCast_zero, Int.add_zero]
      intro q hq
      by_cases hql : q = j
      · subst hql
        simp only [if_neg (Nat.lt_irrefl _)]
        unfold ftFrz
        have ha := adN_len days fro wd q
        have hr := rmN_len days fro wd q
        have hC := c10 ⟨fro, to, wd, adN days fro wd q, rmN days fro wd q⟩ ⟨by show (adN days fro wd q).length ≤ _; omega, by show (rmN days fro wd q).length ≤ _; omega⟩
        have hres : (⟨fro, to, wd, adN days fro wd q, rmN days fro wd q⟩ : Cal) = ftC fro to days := by rw [hwd, hn]; rfl
        unfold ftR
        rw [hB, ← hres]
        generalize (⟨fro, to, wd, adN days fro wd q, rmN days fro wd q⟩ : Cal) = C at hC ⊢
        cases hok : validC C with
        | true =>
          rw [hok] at hC
          rw [if_pos rfl]
          repeat' first | refine go_seq ?_ | refine go_region ?_ | refine go_miss rfl rfl rfl ?_ | refine go_undef rfl rfl rfl ?_ | refine go_draw drawsOk ?_ | ((first | refine go_op rfl ?_ | refine go_nil ?_ | refine go_hit rfl rfl rfl ?_ | refine go_splitT rfl rfl rfl (fun h => ?_) (fun h => ?_) | refine go_splitF rfl rfl rfl (fun h => ?_) (fun h => ?_) | refine go_storeBox rfl rfl rfl rfl rfl rfl ?_ | refine go_dop rfl ?_ | refine go_dhit rfl rfl ?_ | refine go_dmiss rfl rfl ?_ | refine go_dundef rfl rfl ?_ | refine go_dend (by kernel_rfl) ?_ | refine go_pickT rfl ?_ | refine go_pickF rfl ?_ | refine go_pick rfl (fun h => ?_) (fun h => ?_) | refine go_call [] (hC) rfl rfl rfl rfl ?_) <;> conv => whnf) | ((first | refine Or.inl ?_ | refine go_dsplit2 rfl (fun h => ?_) (fun h => ?_) | refine go_loadB ?_ | refine ⟨by kernel_rfl, ?_⟩ | refine go_ret ?_) <;> conv => whnf) | refine go_block ?_ | ((first | refine go_skip ?_ | refine go_exit ?_) <;> conv => whnf) | refine go_true rfl ?_ | refine go_false rfl ?_ | refine go_cond rfl (fun h => ?_) (fun h => ?_) | refine ⟨rfl, ?_⟩ | ((first | refine ⟨trivial, ?_⟩ | refine ⟨le_of_ble rfl, ?_⟩) <;> conv => whnf) | fail
          all_goals first
            | exact ret_all rfl ⟨⟨rfl, fun h => by cases h⟩, ⟨rfl, fun h => by cases h⟩, trivial⟩ List.nodup_nil List.nodup_nil trivial
            | (exfalso; simp only [decide_eq_true_eq, decide_eq_false_iff_not] at *; omega)
            | trace_state
        | false =>
          rw [hok] at hC
          rw [if_neg (by simp)]
          repeat' first | refine go_seq ?_ | refine go_region ?_ | refine go_miss rfl rfl rfl ?_ | refine go_undef rfl rfl rfl ?_ | refine go_draw drawsOk ?_ | ((first | refine go_op rfl ?_ | refine go_nil ?_ | refine go_hit rfl rfl rfl ?_ | refine go_splitT rfl rfl rfl (fun h => ?_) (fun h => ?_) | refine go_splitF rfl rfl rfl (fun h => ?_) (fun h => ?_) | refine go_storeBox rfl rfl rfl rfl rfl rfl ?_ | refine go_dop rfl ?_ | refine go_dhit rfl rfl ?_ | refine go_dmiss rfl rfl ?_ | refine go_dundef rfl rfl ?_ | refine go_dend (by kernel_rfl) ?_ | refine go_pickT rfl ?_ | refine go_pickF rfl ?_ | refine go_pick rfl (fun h => ?_) (fun h => ?_) | refine go_call [] (hC) rfl rfl rfl rfl ?_) <;> conv => whnf) | ((first | refine Or.inl ?_ | refine go_dsplit2 rfl (fun h => ?_) (fun h => ?_) | refine go_loadB ?_ | refine ⟨by kernel_rfl, ?_⟩ | refine go_ret ?_) <;> conv => whnf) | refine go_block ?_ | ((first | refine go_skip ?_ | refine go_exit ?_) <;> conv => whnf) | refine go_true rfl ?_ | refine go_false rfl ?_ | refine go_cond rfl (fun h => ?_) (fun h => ?_) | refine ⟨rfl, ?_⟩ | ((first | refine ⟨trivial, ?_⟩ | refine ⟨le_of_ble rfl, ?_⟩) <;> conv => whnf) | fail
          all_goals first
            | exact ret_all rfl ⟨⟨rfl, fun h => by cases h⟩, ⟨rfl, fun h => by cases h⟩, trivial⟩ List.nodup_nil List.nodup_nil trivial
            | (exfalso; simp only [decide_eq_true_eq, decide_eq_false_iff_not] at *; omega)
            | trace_state
      · have hql' : q < j := by omega
        simp only [if_pos hql']
        unfold ftOwn
        have ha := adN_len days fro wd q
        have hr := rmN_len days fro wd q
        have hA := adN_next days fro wd q
        have hR := rmN_next days fro wd q
        have hc := c24 days (fro + (q : Int)) hl
        have hb := c25 wd (fro + (q : Int)) hwr (by omega)
        rw [has_contains] at hc
        have hone := int_one [fro + (q : Int)]
        have hbA : ((adN days fro wd q).map intRow).length + 1 ≤ 1073741824 := by rw [List.length_map]; omega
        have hbR : ((rmN days fro wd q).map intRow).length + 1 ≤ 1073741824 := by rw [List.length_map]; omega
        have hd1 : AV.imm (.int .i64 (IntKind.i64.wrap (fro + (q : Int) + 1))) = .imm (.int .i64 (fro + ((q + 1 : Nat) : Int))) := by
          rw [wrap_small (by omega) (by omega)]; congr 2; omega
        cases e1 : days.contains (fro + (q : Int)) <;> cases e2 : byW wd (fro + (q : Int))
        all_goals
          rw [e1] at hc
          rw [e2] at hb
          rw [e1, e2] at hA hR
          simp only [Bool.not_true, Bool.not_false, Bool.and_true, Bool.and_false, if_true, if_false, List.append_nil, Bool.false_eq_true] at hA hR
          repeat' first | refine go_seq ?_ | refine go_region ?_ | refine go_miss rfl rfl rfl ?_ | refine go_undef rfl rfl rfl ?_ | refine go_draw drawsOk ?_ | ((first | refine go_op rfl ?_ | refine go_nil ?_ | refine go_hit rfl rfl rfl ?_ | refine go_splitT rfl rfl rfl (fun h => ?_) (fun h => ?_) | refine go_splitF rfl rfl rfl (fun h => ?_) (fun h => ?_) | refine go_storeBox rfl rfl rfl rfl rfl rfl ?_ | refine go_dop rfl ?_ | refine go_dhit rfl rfl ?_ | refine go_dmiss rfl rfl ?_ | refine go_dundef rfl rfl ?_ | refine go_dend (by kernel_rfl) ?_ | refine go_pickT rfl ?_ | refine go_pickF rfl ?_ | refine go_pick rfl (fun h => ?_) (fun h => ?_) | refine go_call [] (hc) rfl rfl rfl rfl ?_ | refine go_call [] (hb) rfl rfl rfl rfl ?_ | refine go_append (rows2 := [fro + (q : Int)].map intRow) rfl rfl rfl rfl rfl rfl rfl rfl rfl rfl rfl rfl hone rfl rfl rfl hbA ?_ | refine go_append (rows2 := [fro + (q : Int)].map intRow) rfl rfl rfl rfl rfl rfl rfl rfl rfl rfl rfl rfl hone rfl rfl rfl hbR ?_) <;> conv => whnf) | ((first | refine Or.inl ?_ | refine go_dsplit2 rfl (fun h => ?_) (fun h => ?_) | refine go_loadB ?_ | refine ⟨by kernel_rfl, ?_⟩ | refine go_ret ?_) <;> conv => whnf) | refine go_block ?_ | ((first | refine go_skip ?_ | refine go_exit ?_) <;> conv => whnf) | refine go_true rfl ?_ | refine go_false rfl ?_ | refine go_cond rfl (fun h => ?_) (fun h => ?_) | refine ⟨rfl, ?_⟩ | ((first | refine ⟨trivial, ?_⟩ | refine ⟨le_of_ble rfl, ?_⟩) <;> conv => whnf) | fail
          all_goals first
            | (exfalso; simp only [decide_eq_true_eq, decide_eq_false_iff_not] at *; omega)
            | (refine go_next (q + 1) (by omega) (by omega) (ft_F (.inr rfl) (ref_st id rfl ⟨rfl, rfl, ⟨rfl, rfl⟩, ⟨rfl, rfl⟩, hd1, trivial⟩ ⟨⟨rfl, wavs_imm _⟩, ?_, ?_, ⟨rfl, rfl, rfl, rfl, ⟨?_, rfl⟩, ⟨?_, rfl⟩, trivial⟩, trivial⟩ (by simp) rfl (by simp)))
               · show some _ = some _
                 rw [hA]; done
               · show some _ = some _
                 rw [hR]; done
               · show AV.own _ _ _ = AV.own _ _ _
                 rw [hA]; try rfl
               · show AV.own _ _ _ = AV.own _ _ _
                 rw [hR]; try rfl
               done)
            | (refine go_next (q + 1) (by omega) (by omega) (ft_F (.inr rfl) (ref_st (fun i => if i = 1001 then nid 5 105 else i) rfl ⟨rfl, rfl, ⟨rfl, rfl⟩, ⟨rfl, rfl⟩, hd1, trivial⟩ ⟨⟨rfl, wavs_imm _⟩, ?_, ?_, ⟨rfl, rfl, rfl, rfl, ⟨?_, rfl⟩, ⟨?_, rfl⟩, trivial⟩, trivial⟩ (by simp [nid]) rfl (by simp)))
               · show some _ = some _
                 rw [hA, List.map_append]; try rfl
               · show some _ = some _
                 rw [hR]; try rfl
               · show AV.own _ _ _ = AV.own _ _ _
                 rw [hA, List.map_append, List.length_append]; try rfl
               · show AV.own _ _ _ = AV.own _ _ _
                 rw [hR]; try rfl
               done)
            | (refine go_next (q + 1) (by omega) (by omega) (ft_F (.inr rfl) (ref_st (fun i => if i = 1002 then nid 6 120 else i) rfl ⟨rfl, rfl, ⟨rfl, rfl⟩, ⟨rfl, rfl⟩, hd1, trivial⟩ ⟨⟨rfl, wavs_imm _⟩, ?_, ?_, ⟨rfl, rfl, rfl, rfl, ⟨?_, rfl⟩, ⟨?_, rfl⟩, trivial⟩, trivial⟩ (by simp [nid]) rfl (by simp)))
               · show some _ = some _
                 rw [hA]; try rfl
               · show some _ = some _
                 rw [hR, List.map_append]; try rfl
               · show AV.own _ _ _ = AV.own _ _ _
                 rw [hA]; try rfl
               · show AV.own _ _ _ = AV.own _ _ _
                 rw [hR, List.map_append, List.length_append]; try rfl
               done)
            | trace_state
    · have hi6 : i < 7 := by omega
      clear hwd
      repeat' first | refine go_seq ?_ | refine go_region ?_ | refine go_miss rfl rfl rfl ?_ | refine go_undef rfl rfl rfl ?_ | refine go_draw drawsOk ?_ | ((first | refine go_op rfl ?_ | refine go_nil ?_ | refine go_hit rfl rfl rfl ?_ | refine go_splitT rfl rfl rfl (fun h => ?_) (fun h => ?_) | refine go_splitF rfl rfl rfl (fun h => ?_) (fun h => ?_) | refine go_storeBox rfl rfl rfl rfl rfl rfl ?_ | refine go_dop rfl ?_ | refine go_dhit rfl rfl ?_ | refine go_dmiss rfl rfl ?_ | refine go_dundef rfl rfl ?_ | refine go_dend (by kernel_rfl) ?_ | refine go_pickT rfl ?_ | refine go_pickF rfl ?_ | refine go_pick rfl (fun h => ?_) (fun h => ?_) | refine go_idxBoxI (j := i) rfl rfl rfl rfl rfl rfl hi6 ?_ | refine go_loadBoxI i rfl (by show 0 + i * 1 = i; omega) rfl rfl rfl (cel7_at _ hi6) ?_ | refine ⟨Int.natCast_nonneg i, ?_⟩) <;> conv => whnf) | ((first | refine Or.inl ?_ | refine go_dsplit2 rfl (fun h => ?_) (fun h => ?_) | refine go_loadB ?_ | refine ⟨by kernel_rfl, ?_⟩ | refine go_ret ?_) <;> conv => whnf) | refine go_block ?_ | ((first | refine go_skip ?_ | refine go_exit ?_) <;> conv => whnf) | refine go_true rfl ?_ | refine go_false rfl ?_ | refine go_cond rfl (fun h => ?_) (fun h => ?_) | refine ⟨rfl, ?_⟩ | ((first | refine ⟨trivial, ?_⟩ | refine ⟨le_of_ble rfl, ?_⟩) <;> conv => whnf) | fail
      all_goals first
        | (exfalso; simp only [decide_eq_true_eq, decide_eq_false_iff_not] at *; omega)
        | (have hp : mostW days fro j i = true := by unfold mostW; have g := of_decide_eq_true h; exact decide_eq_true (by omega)
           refine go_next (i + 1) (by omega) (by omega) (ref_st id rfl ⟨rfl, rfl, rfl, ⟨rfl, rfl⟩, ⟨rfl, rfl⟩, ⟨rfl, rfl⟩, ⟨rfl, rfl⟩, next_i (by omega), trivial⟩ ⟨⟨rfl, wavs_imm _⟩, ⟨rfl, wavs_imm _⟩, ⟨rfl, wavs_imm _⟩, ⟨rfl, rfl, rfl, ?_, rfl, rfl, trivial⟩, trivial⟩ (by simp) rfl (by simp))
           exact congrArg (fun z => AV.imm (.int .i64 z)) (wdN_or hi6 hp))
        | (have hp : mostW days fro j i = false := by unfold mostW; have g := of_decide_eq_false h; exact decide_eq_false (by omega)
           refine go_next (i + 1) (by omega) (by omega) (ref_st id rfl ⟨rfl, rfl, rfl, ⟨rfl, rfl⟩, ⟨rfl, rfl⟩, ⟨rfl, rfl⟩, ⟨rfl, rfl⟩, next_i (by omega), trivial⟩ ⟨⟨rfl, wavs_imm _⟩, ⟨rfl, wavs_imm _⟩, ⟨rfl, wavs_imm _⟩, ⟨rfl, rfl, rfl, ?_, rfl, rfl, trivial⟩, trivial⟩ (by simp) rfl (by simp))
           show AV.imm _ = AV.imm _
           rw [wdN, if_neg (by rw [hp]; decide), Nat.add_zero])
        | trace_state
  · have hd1 : AV.imm (.int .i64 (IntKind.i64.wrap (fro + (j : Int) + 1))) = .imm (.int .i64 (fro + ((j + 1 : Nat) : Int))) := by
      rw [wrap_small (by omega) (by omega)]; congr 2; omega
    clear h1 h2 h3
    have hc := c24 days (fro + (j : Int)) hl
    rw [has_contains] at hc
    obtain ⟨k, hk⟩ : ∃ k : Nat, (fro + (j : Int)) % 7 = k := ⟨((fro + (j : Int)) % 7).toNat, by omega⟩
    have hk7 : k < 7 := by omega
    have hij : (fro + (j : Int)).tmod 7 = ((k : Nat) : Int) := by rw [Int.tmod_eq_emod_of_nonneg (by omega), hk]
    have hgl := gvN_le days fro k j
    have hml := msN_le days fro k j
    cases e : days.contains (fro + (j : Int)) with
    | true =>
      rw [e] at hc
      have hg : ∀ w : Nat, gvN days fro w (j + 1) = gvN days fro w j + if w = k then 1 else 0 := fun w => by
        rw [gvN_next, hk, e]
        congr 1
        by_cases hw : w = k
        · rw [if_pos hw, if_pos ⟨by omega, rfl⟩]
        · rw [if_neg hw, if_neg (by omega)]
      have hm : (fun w : Nat => ((msN days fro w (j + 1) : Nat) : Int)) = fun w : Nat => ((msN days fro w j : Nat) : Int) := by
        funext w
        rw [msN_next, e, if_neg (by simp), Nat.add_zero]
      have hcl : 0 + k * 1 + 1 ≤ ((cel7 fun w : Nat => ((gvN days fro w j : Nat) : Int)).map AV.imm).length := by show _ ≤ 7; omega
      have hset : setAt ((cel7 fun w : Nat => ((gvN days fro w j : Nat) : Int)).map AV.imm) (0 + k * 1) [.imm (.int .i64 (IntKind.i64.wrap (((gvN days fro k j : Nat) : Int) + 1)))] = (cel7 fun w : Nat => ((gvN days fro w (j + 1) : Nat) : Int)).map AV.imm :=
        cel7_set hk7 (fun w hw => by rw [hg, if_neg hw, Nat.add_zero]) (by rw [hg, if_pos rfl, wrap_small (by omega) (by omega)]; rfl)
      repeat' first | refine go_seq ?_ | refine go_region ?_ | refine go_miss rfl rfl rfl ?_ | refine go_undef rfl rfl rfl ?_ | refine go_draw drawsOk ?_ | ((first | refine go_op rfl ?_ | refine go_nil ?_ | refine go_hit rfl rfl rfl ?_ | refine go_splitT rfl rfl rfl (fun h => ?_) (fun h => ?_) | refine go_splitF rfl rfl rfl (fun h => ?_) (fun h => ?_) | refine go_storeBox rfl rfl rfl rfl rfl rfl ?_ | refine go_dop rfl ?_ | refine go_dhit rfl rfl ?_ | refine go_dmiss rfl rfl ?_ | refine go_dundef rfl rfl ?_ | refine go_dend (by kernel_rfl) ?_ | refine go_pickT rfl ?_ | refine go_pickF rfl ?_ | refine go_pick rfl (fun h => ?_) (fun h => ?_) | refine go_call [] (hc) rfl rfl rfl rfl ?_ | refine ⟨seven_ne, ?_⟩ | refine go_idxBoxI (j := k) rfl rfl hij rfl rfl rfl hk7 ?_ | refine go_loadBoxI k rfl (by show 0 + k * 1 = k; omega) rfl rfl rfl (cel7_at _ hk7) ?_ | refine go_storeBoxI rfl rfl rfl rfl rfl hcl hset ?_) <;> conv => whnf) | ((first | refine Or.inl ?_ | refine go_dsplit2 rfl (fun h => ?_) (fun h => ?_) | refine go_loadB ?_ | refine ⟨by kernel_rfl, ?_⟩ | refine go_ret ?_) <;> conv => whnf) | refine go_block ?_ | ((first | refine go_skip ?_ | refine go_exit ?_) <;> conv => whnf) | refine go_true rfl ?_ | refine go_false rfl ?_ | refine go_cond rfl (fun h => ?_) (fun h => ?_) | refine ⟨rfl, ?_⟩ | ((first | refine ⟨trivial, ?_⟩ | refine ⟨le_of_ble rfl, ?_⟩) <;> conv => whnf) | fail
      all_goals first
        | (exfalso; simp only [decide_eq_true_eq, decide_eq_false_iff_not] at *; omega)
        | exact go_next (j + 1) (by omega) (by omega) (ref_st id rfl ⟨rfl, rfl, rfl, ⟨rfl, rfl⟩, ⟨rfl, rfl⟩, ⟨rfl, rfl⟩, hd1, trivial⟩ ⟨⟨rfl, wavs_imm _⟩, ⟨rfl, wavs_imm _⟩, ⟨rfl, by rw [hm]; exact wavs_imm _⟩, trivial⟩ (by simp) rfl (by simp))
        | trace_state
    | false =>
      rw [e] at hc
      have hg : ∀ w : Nat, msN days fro w (j + 1) = msN days fro w j + if w = k then 1 else 0 := fun w => by
        rw [msN_next, hk, e]
        congr 1
        by_cases hw : w = k
        · rw [if_pos hw, if_pos ⟨by omega, rfl⟩]
        · rw [if_neg hw, if_neg (by omega)]
      have hm : (fun w : Nat => ((gvN days fro w (j + 1) : Nat) : Int)) = fun w : Nat => ((gvN days fro w j : Nat) : Int) := by
        funext w
        rw [gvN_next, e, if_neg (by simp), Nat.add_zero]
      have hcl : 0 + k * 1 + 1 ≤ ((cel7 fun w : Nat => ((msN days fro w j : Nat) : Int)).map AV.imm).length := by show _ ≤ 7; omega
      have hset : setAt ((cel7 fun w : Nat => ((msN days fro w j : Nat) : Int)).map AV.imm) (0 + k * 1) [.imm (.int .i64 (IntKind.i64.wrap (((msN days fro k j : Nat) : Int) + 1)))] = (cel7 fun w : Nat => ((msN days fro w (j + 1) : Nat) : Int)).map AV.imm :=
        cel7_set hk7 (fun w hw => by rw [hg, if_neg hw, Nat.add_zero]) (by rw [hg, if_pos rfl, wrap_small (by omega) (by omega)]; rfl)
      repeat' first | refine go_seq ?_ | refine go_region ?_ | refine go_miss rfl rfl rfl ?_ | refine go_undef rfl rfl rfl ?_ | refine go_draw drawsOk ?_ | ((first | refine go_op rfl ?_ | refine go_nil ?_ | refine go_hit rfl rfl rfl ?_ | refine go_splitT rfl rfl rfl (fun h => ?_) (fun h => ?_) | refine go_splitF rfl rfl rfl (fun h => ?_) (fun h => ?_) | refine go_storeBox rfl rfl rfl rfl rfl rfl ?_ | refine go_dop rfl ?_ | refine go_dhit rfl rfl ?_ | refine go_dmiss rfl rfl ?_ | refine go_dundef rfl rfl ?_ | refine go_dend (by kernel_rfl) ?_ | refine go_pickT rfl ?_ | refine go_pickF rfl ?_ | refine go_pick rfl (fun h => ?_) (fun h => ?_) | refine go_call [] (hc) rfl rfl rfl rfl ?_ | refine ⟨seven_ne, ?_⟩ | refine go_idxBoxI (j := k) rfl rfl hij rfl rfl rfl hk7 ?_ | refine go_loadBoxI k rfl (by show 0 + k * 1 = k; omega) rfl rfl rfl (cel7_at _ hk7) ?_ | refine go_storeBoxI rfl rfl rfl rfl rfl hcl hset ?_) <;> conv => whnf) | ((first | refine Or.inl ?_ | refine go_dsplit2 rfl (fun h => ?_) (fun h => ?_) | refine go_loadB ?_ | refine ⟨by kernel_rfl, ?_⟩ | refine go_ret ?_) <;> conv => whnf) | refine go_block ?_ | ((first | refine go_skip ?_ | refine go_exit ?_) <;> conv => whnf) | refine go_true rfl ?_ | refine go_false rfl ?_ | refine go_cond rfl (fun h => ?_) (fun h => ?_) | refine ⟨rfl, ?_⟩ | ((first | refine ⟨trivial, ?_⟩ | refine ⟨le_of_ble rfl, ?_⟩) <;> conv => whnf) | fail
      all_goals first
        | (exfalso; simp only [decide_eq_true_eq, decide_eq_false_iff_not] at *; omega)
        | exact go_next (j + 1) (by omega) (by omega) (ref_st id rfl ⟨rfl, rfl, rfl, ⟨rfl, rfl⟩, ⟨rfl, rfl⟩, ⟨rfl, rfl⟩, hd1, trivial⟩ ⟨⟨rfl, wavs_imm _⟩, ⟨rfl, by rw [hm]; exact wavs_imm _⟩, ⟨rfl, wavs_imm _⟩, trivial⟩ (by simp) rfl (by simp))
        | trace_state
end Go.Proofs.Ytlpdlfdafgoafaa

