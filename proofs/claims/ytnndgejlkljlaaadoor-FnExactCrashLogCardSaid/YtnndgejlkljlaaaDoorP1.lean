/- PROVED: FnExactCrashLogCardSaid: whatever the log, the number of bytes kept and the tear, the program's CrashLog answers as the reference's does Conditions: none but the card's own (the library's tables are tied to the program's text). -/
import Derived.Test.YtnndgejlkljlaaaDoorWL
import Derived.Test.YtnndgejlkljlaaaDoorW
import Derived.Test.YtnndgejlkljlaaaDoorCL
namespace Go.Proofs.YtnndgejlkljlaaaDoor.fnExactCrashLog
set_option maxRecDepth 100000
open Go Go.Am Go.ChangeShapes Go.WideShapes Go.ChangeAt Go.RowKit

theorem call (dds : List D) (hl : dds.length = 3) (h : ∀ (j : Nat) t dd, [23, 3, 4][j]? = some t → dds[j]? = some dd → WTv Tryd.prog t dd) : CallOk Tryd.prog 3 (dds.map .imm) { res := [.imm (.bool true)] } := by
  match dds, hl with
  | [d0, d1, d2], _ =>
    have hs : ∀ (j : Nat) t dd, [23, 3, 4][j]? = some t → [d0, d1, d2][j]? = some dd → WTv Tryd.prog t dd := h
    have h0 : WTv Tryd.prog 23 d0 := hs 0 23 d0 rfl rfl
    have h1 : WTv Tryd.prog 3 d1 := hs 1 3 d1 rfl rfl
    have h2 : WTv Tryd.prog 4 d2 := hs 2 4 d2 rfl rfl
    clear h hs
    refine logVV_of (fun d => CallOk Tryd.prog 3 ([d, d1, d2].map .imm) { res := [.imm (.bool true)] }) d0 h0 ?_
    intro x0 hok0
    refine int_of (fun d => CallOk Tryd.prog 3 ([(.agg x0.enc), d, d2].map .imm) { res := [.imm (.bool true)] }) d1 h1 ?_
    intro x1 hx1
    refine bool_of (fun d => CallOk Tryd.prog 3 ([(.agg x0.enc), (.int .i64 x1), d].map .imm) { res := [.imm (.bool true)] }) d2 h2 ?_
    intro x2
    exact c3 x0 hok0 x1 hx1 x2

theorem contract (H : Type) (enc : TypeId × Value → H) (W : World) (base : Nat) (args : Array Value) (ds gs : List (DataW H)) (before : List MemPlace)
    (hval : ∀ (j : Nat) t v, Tryd.f3.params[j]? = some t → args[j]? = some v → Value.okWide Tryd.prog W .any base t v)
    (hW : DataW.Whole enc Tryd.prog Tryd.f3.params.toList Rows.fnExactCrashLogSpec.vars false W args.toList ds gs before) (hL : laidMetH Tryd.prog Rows.fnExactCrashLogRow.laid W) :
    Calls Tryd.prog 3 args W fun e W' => ∃ v, e = .returned v ∧ Rows.fnExactCrashLogSpec.post enc Tryd.prog Tryd.f3 false true false false W args v W' :=
  law_step (f := Tryd.f3) (ts := [23, 3, 4]) (tb := 4) rfl rfl Tryd.underlying4 rfl (fun ds hds => by
    match ds, hds with
    | [d0, d1, d2], _ => rfl) laidOut (by kernel_rfl) call hval hW (tb_of hL)

theorem laid_met (os : Os) : laidMet Tryd.prog Rows.fnExactCrashLogRow.laid ((laidWorld os).forCall (fun _ _ => 0) ⟨#[], #[.agg #[.string ⟨#[]⟩, .string ⟨#[]⟩, .int .i64 0], .int .i64 0, .bool false], []⟩).memory :=
  laidMet_of_run' 8 (by kernel_rfl) (by kernel_rfl)

theorem reads (os : Os) {H : Type} (enc : TypeId × Value → H) : (DataW.whole enc Tryd.prog ((laidWorld os).forCall (fun _ _ => 0) ⟨#[], #[.agg #[.string ⟨#[]⟩, .string ⟨#[]⟩, .int .i64 0], .int .i64 0, .bool false], []⟩).memory Tryd.f3.params.toList Rows.fnExactCrashLogSpec.vars false (#[.agg #[.string ⟨#[]⟩, .string ⟨#[]⟩, .int .i64 0], .int .i64 0, .bool false] : Array Value).toList 8).isSome = true := by kernel_rfl

theorem lifted (os : Os) (started : os.Started) (H : Type) (enc : TypeId × Value → H) (F : Stop.Interp) :
    ReturnsInHanded {} Tryd.checked os 3 .any ((OpenSpec.ofChange Rows.fnExactCrashLogSpec).preRow enc Tryd.prog Tryd.f3 Rows.fnExactCrashLogRow.domain false Rows.fnExactCrashLogRow.laid) (((OpenSpec.ofChange Rows.fnExactCrashLogSpec).at F).post enc Tryd.prog Tryd.f3 false true false false) := by
  obtain ⟨x, hx⟩ := Option.isSome_iff_exists.1 (reads os enc)
  refine returnsInHanded_of_row (C := Tryd.checked) (s := OpenSpec.ofChange Rows.fnExactCrashLogSpec) own started (by kernel_rfl) Tryd.func3
    (witness_row_at (enc := enc) (C := Tryd.checked) false (laidWorld os) #[.agg #[.string ⟨#[]⟩, .string ⟨#[]⟩, .int .i64 0], .int .i64 0, .bool false] rfl (by kernel_rfl) (by kernel_rfl) (by kernel_rfl)
      (OpenSpec.preRow_of_cond 8 hx (by kernel_rfl) (fun k hk => by cases hk) (by kernel_rfl) (laid_met os))) ?_
  intro W base args ds gs before hval hW _ _ _ hL _ _
  exact contract H enc W base args ds gs before hval hW hL

theorem said : Rows.FnExactCrashLogSaid :=
  OpenClaim.holds_of_cond 3 Tryd.f3 rfl rfl rfl rfl rfl rfl rfl ⟨rfl, rfl, rfl, rfl, rfl⟩ rfl rfl rfl rfl rfl (by kernel_rfl) Tryd.func3 (by kernel_rfl)
    (of_decide_eq_true (by kernel_rfl)) (by unfold Func.isWrapper; first | (rw [if_pos (by decide +kernel)]; kernel_rfl) | (rw [if_neg (by decide +kernel)]; exact ⟨rfl, rfl⟩))
    (fun os started H enc _ F => by rw [OpenClaim.pre_eq_preRow]; exact lifted os started H enc F)

theorem plain (f : FuncId) (fn : Func) (hf : Tryd.pinned.checked.prog.funcNamed "loop.example/g00900/laws.FnExactCrashLog" = some f) (hfn : Tryd.pinned.checked.prog.funcs[f]? = some fn) :
    false = Tryd.pinned.checked.prog.looks [] ∧ ∀ (j : Nat) t, fn.params[j]? = some t → Tryd.pinned.checked.prog.wantsStandIn t = false := by
  obtain rfl : f = 3 := Option.some.inj ((show Tryd.prog.funcNamed "loop.example/g00900/laws.FnExactCrashLog" = some 3 by kernel_rfl).symm.trans hf) |>.symm
  obtain rfl : fn = Tryd.f3 := (Option.some.inj (Tryd.func3.symm.trans hfn)).symm
  have all : Tryd.f3.params.toList.all (fun t => !Tryd.prog.wantsStandIn t) = true := by kernel_rfl
  refine ⟨by kernel_rfl, fun j t ht => ?_⟩
  have := List.all_eq_true.1 all t (Array.mem_toList_iff.2 (Array.mem_of_getElem? ht))
  have hh : Tryd.prog.wantsStandIn t = false := by simpa using this
  exact hh

theorem proved : Rows.FnExactCrashLogCardSaid :=
  Claim7.holds_tied_plain_at .later [] _ _ _ _ said (fun _ h => by cases h) (by kernel_rfl) (fun _ h => by cases h) fnExactCrashLog_row_tie rfl ⟨rfl, rfl⟩ (by kernel_rfl) rfl plain (by kernel_rfl)

#print axioms proved
end Go.Proofs.YtnndgejlkljlaaaDoor.fnExactCrashLog

