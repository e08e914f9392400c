/- PROVED: FnExactDiffTimetablesCardSaid: whatever the two timetables, the program's DiffTimetables answers as the reference's does, leaves its arguments as they were, and shares memory with nothing. Conditions: none but the card's own (the library's tables are tied to the program's text). -/
import Derived.Test.YtekilollacmajaaGreatDoorWL
import Derived.Test.YtekilollacmajaaGreatDoorW
import Derived.Test.YtekilollacmajaaGreatDoorWL
import Derived.Test.YtekilollacmajaaGreatDoorW
import Derived.Test.YtekilollacmajaaGreatDoorD3
namespace Go.Proofs.YtekilollacmajaaGreatDoor.fnExactDiffTimetables
set_option maxRecDepth 100000
open Go Go.Am Go.ChangeShapes Go.WideShapes Go.ChangeAt Go.RowKit

theorem call (dds : List D) (hl : dds.length = 2) (h : ∀ (j : Nat) t dd, [28, 28][j]? = some t → dds[j]? = some dd → WTv Tryz.prog t dd) : CallOk Tryz.prog 3 (dds.map .imm) { res := [.imm (.bool true)] } := by
  match dds, hl with
  | [d0, d1], _ =>
    have hs : ∀ (j : Nat) t dd, [28, 28][j]? = some t → [d0, d1][j]? = some dd → WTv Tryz.prog t dd := h
    have h0 : WTv Tryz.prog 28 d0 := hs 0 28 d0 rfl rfl
    have h1 : WTv Tryz.prog 28 d1 := hs 1 28 d1 rfl rfl
    clear h hs
    refine timetableV_of (fun d => CallOk Tryz.prog 3 ([d, d1].map .imm) { res := [.imm (.bool true)] }) d0 h0 ?_
    intro x0 hok0
    refine timetableV_of (fun d => CallOk Tryz.prog 3 ([(.agg x0.enc), d].map .imm) { res := [.imm (.bool true)] }) d1 h1 ?_
    intro x1 hok1
    exact c3 x0 hok0 x1 hok1

theorem contract (H : Type) (enc : TypeId × Value → H) (W : World) (base : Nat) (args : Array Value) (ds gs : List (DataW H)) (before : List MemPlace)
    (hval : ∀ (j : Nat) t v, Tryz.f3.params[j]? = some t → args[j]? = some v → Value.okWide Tryz.prog W .any base t v)
    (hW : DataW.Whole enc Tryz.prog Tryz.f3.params.toList Rows.fnExactDiffTimetablesSpec.vars false W args.toList ds gs before) (hL : laidMetH Tryz.prog Rows.fnExactDiffTimetablesRow.laid W) :
    Calls Tryz.prog 3 args W fun e W' => ∃ v, e = .returned v ∧ Rows.fnExactDiffTimetablesSpec.post enc Tryz.prog Tryz.f3 false true false false W args v W' :=
  law_step (f := Tryz.f3) (ts := [28, 28]) (tb := 4) rfl rfl Tryz.underlying4 rfl (fun ds hds => by
    match ds, hds with
    | [d0, d1], _ => rfl) laidOut (by kernel_rfl) call hval hW (tb_of hL)

theorem laid_met (os : Os) : laidMet Tryz.prog Rows.fnExactDiffTimetablesRow.laid ((laidWorld os).forCall (fun _ _ => 0) ⟨#[], #[.agg #[.slice none 0 0, .slice none 0 0, .slice none 0 0], .agg #[.slice none 0 0, .slice none 0 0, .slice none 0 0]], []⟩).memory :=
  laidMet_of_run' 8 (by kernel_rfl) (by kernel_rfl)

theorem reads (os : Os) {H : Type} (enc : TypeId × Value → H) : (DataW.whole enc Tryz.prog ((laidWorld os).forCall (fun _ _ => 0) ⟨#[], #[.agg #[.slice none 0 0, .slice none 0 0, .slice none 0 0], .agg #[.slice none 0 0, .slice none 0 0, .slice none 0 0]], []⟩).memory Tryz.f3.params.toList Rows.fnExactDiffTimetablesSpec.vars false (#[.agg #[.slice none 0 0, .slice none 0 0, .slice none 0 0], .agg #[.slice none 0 0, .slice none 0 0, .slice none 0 0]] : Array Value).toList 8).isSome = true := by kernel_rfl

theorem lifted (os : Os) (started : os.Started) (H : Type) (enc : TypeId × Value → H) (F : Stop.Interp) :
    ReturnsInHanded {} Tryz.checked os 3 .any ((OpenSpec.ofChange Rows.fnExactDiffTimetablesSpec).preRow enc Tryz.prog Tryz.f3 Rows.fnExactDiffTimetablesRow.domain false Rows.fnExactDiffTimetablesRow.laid) (((OpenSpec.ofChange Rows.fnExactDiffTimetablesSpec).at F).post enc Tryz.prog Tryz.f3 false true false false) := by
  obtain ⟨x, hx⟩ := Option.isSome_iff_exists.1 (reads os enc)
  refine returnsInHanded_of_row (C := Tryz.checked) (s := OpenSpec.ofChange Rows.fnExactDiffTimetablesSpec) own started (by kernel_rfl) Tryz.func3
    (witness_row_at (enc := enc) (C := Tryz.checked) false (laidWorld os) #[.agg #[.slice none 0 0, .slice none 0 0, .slice none 0 0], .agg #[.slice none 0 0, .slice none 0 0, .slice none 0 0]] rfl (by kernel_rfl) (by kernel_rfl) (by kernel_rfl)
      (OpenSpec.preRow_of_cond 8 hx (by kernel_rfl) (fun k hk => by cases hk) (by kernel_rfl) (laid_met os))) ?_
  intro W base args ds gs before hval hW _ _ _ hL _ _
  exact contract H enc W base args ds gs before hval hW hL

theorem said : Rows.FnExactDiffTimetablesSaid :=
  OpenClaim.holds_of_cond 3 Tryz.f3 rfl rfl rfl rfl rfl rfl rfl ⟨rfl, rfl, rfl, rfl, rfl⟩ rfl rfl rfl rfl rfl (by kernel_rfl) Tryz.func3 (by kernel_rfl)
    (of_decide_eq_true (by kernel_rfl)) (by unfold Func.isWrapper; first | (rw [if_pos (by decide +kernel)]; kernel_rfl) | (rw [if_neg (by decide +kernel)]; exact ⟨rfl, rfl⟩))
    (fun os started H enc _ F => by rw [OpenClaim.pre_eq_preRow]; exact lifted os started H enc F)

theorem plain (f : FuncId) (fn : Func) (hf : Tryz.pinned.checked.prog.funcNamed "loop.example/g00900/laws.FnExactDiffTimetables" = some f) (hfn : Tryz.pinned.checked.prog.funcs[f]? = some fn) :
    false = Tryz.pinned.checked.prog.looks [] ∧ ∀ (j : Nat) t, fn.params[j]? = some t → Tryz.pinned.checked.prog.wantsStandIn t = false := by
  obtain rfl : f = 3 := Option.some.inj ((show Tryz.prog.funcNamed "loop.example/g00900/laws.FnExactDiffTimetables" = some 3 by kernel_rfl).symm.trans hf) |>.symm
  obtain rfl : fn = Tryz.f3 := (Option.some.inj (Tryz.func3.symm.trans hfn)).symm
  have all : Tryz.f3.params.toList.all (fun t => !Tryz.prog.wantsStandIn t) = true := by kernel_rfl
  refine ⟨by kernel_rfl, fun j t ht => ?_⟩
  have := List.all_eq_true.1 all t (Array.mem_toList_iff.2 (Array.mem_of_getElem? ht))
  have hh : Tryz.prog.wantsStandIn t = false := by simpa using this
  exact hh

theorem proved : Rows.FnExactDiffTimetablesCardSaid :=
  Claim7.holds_tied_plain_at .later [] _ _ _ _ said (fun _ h => by cases h) (by kernel_rfl) (fun _ h => by cases h) fnExactDiffTimetables_row_tie rfl ⟨rfl, rfl⟩ (by kernel_rfl) rfl plain (by kernel_rfl)

#print axioms proved
end Go.Proofs.YtekilollacmajaaGreatDoor.fnExactDiffTimetables

