/- PROVED: FnExactNoticeTextCardSaid: whatever the notice, the program's NoticeText answers as the reference's does. Conditions: none but the card's own (the library's tables are tied to the program's text). -/
import Derived.Test.YtlkmbamenkjcmaaDoorWL
import Derived.Test.YtlkmbamenkjcmaaDoorW
import Derived.Test.YtlkmbamenkjcmaaDoorK4D
namespace Go.Proofs.YtlkmbamenkjcmaaDoor.fnExactNoticeText
set_option maxRecDepth 100000
open Go Go.Am Go.ChangeShapes Go.WideShapes Go.ChangeAt Go.RowKit

theorem call (dds : List D) (hl : dds.length = 1) (h : ∀ (j : Nat) t dd, [30][j]? = some t → dds[j]? = some dd → WTv Tryd.prog t dd) : CallOk Tryd.prog 4 (dds.map .imm) { res := [.imm (.bool true)] } := by
  match dds, hl with
  | [d0], _ =>
    have hs : ∀ (j : Nat) t dd, [30][j]? = some t → [d0][j]? = some dd → WTv Tryd.prog t dd := h
    have h0 : WTv Tryd.prog 30 d0 := hs 0 30 d0 rfl rfl
    clear h hs
    refine messages_of (fun d => CallOk Tryd.prog 4 ([d].map .imm) { res := [.imm (.bool true)] }) d0 h0 ?_
    intro x0 hok0 hl0
    exact c4 x0 hok0 hl0

theorem contract (H : Type) (enc : TypeId × Value → H) (W : World) (base : Nat) (args : Array Value) (ds gs : List (DataW H)) (before : List MemPlace)
    (hval : ∀ (j : Nat) t v, Tryd.f4.params[j]? = some t → args[j]? = some v → Value.okWide Tryd.prog W .any base t v)
    (hW : DataW.Whole enc Tryd.prog Tryd.f4.params.toList Rows.fnExactNoticeTextSpec.vars false W args.toList ds gs before) (hL : laidMetH Tryd.prog Rows.fnExactNoticeTextRow.laid W) :
    Calls Tryd.prog 4 args W fun e W' => ∃ v, e = .returned v ∧ Rows.fnExactNoticeTextSpec.post enc Tryd.prog Tryd.f4 false true false false W args v W' :=
  law_step (f := Tryd.f4) (ts := [30]) (tb := 4) rfl rfl Tryd.underlying4 rfl (fun ds hds => by
    match ds, hds with
    | [d0], _ => rfl) laidOut (by kernel_rfl) call hval hW (tb_of hL)

theorem laid_met (os : Os) : laidMet Tryd.prog Rows.fnExactNoticeTextRow.laid ((laidWorld os).forCall (fun _ _ => 0) ⟨#[], #[.slice none 0 0], []⟩).memory :=
  laidMet_of_run' 8 (by kernel_rfl) (by kernel_rfl)

theorem reads (os : Os) {H : Type} (enc : TypeId × Value → H) : (DataW.whole enc Tryd.prog ((laidWorld os).forCall (fun _ _ => 0) ⟨#[], #[.slice none 0 0], []⟩).memory Tryd.f4.params.toList Rows.fnExactNoticeTextSpec.vars false (#[.slice none 0 0] : Array Value).toList 8).isSome = true := by kernel_rfl

theorem lifted (os : Os) (started : os.Started) (H : Type) (enc : TypeId × Value → H) (F : Stop.Interp) :
    ReturnsInHanded {} Tryd.checked os 4 .any ((OpenSpec.ofChange Rows.fnExactNoticeTextSpec).preRow enc Tryd.prog Tryd.f4 Rows.fnExactNoticeTextRow.domain false Rows.fnExactNoticeTextRow.laid) (((OpenSpec.ofChange Rows.fnExactNoticeTextSpec).at F).post enc Tryd.prog Tryd.f4 false true false false) := by
  obtain ⟨x, hx⟩ := Option.isSome_iff_exists.1 (reads os enc)
  refine returnsInHanded_of_row (C := Tryd.checked) (s := OpenSpec.ofChange Rows.fnExactNoticeTextSpec) own started (by kernel_rfl) Tryd.func4
    (witness_row_at (enc := enc) (C := Tryd.checked) false (laidWorld os) #[.slice none 0 0] rfl (by kernel_rfl) (by kernel_rfl) (by kernel_rfl)
      (OpenSpec.preRow_of_cond 8 hx (by kernel_rfl) (fun k hk => by cases hk) (by kernel_rfl) (laid_met os))) ?_
  intro W base args ds gs before hval hW _ _ _ hL _ _
  exact contract H enc W base args ds gs before hval hW hL

theorem said : Rows.FnExactNoticeTextSaid :=
  OpenClaim.holds_of_cond 4 Tryd.f4 rfl rfl rfl rfl rfl rfl rfl ⟨rfl, rfl, rfl, rfl, rfl⟩ rfl rfl rfl rfl rfl (by kernel_rfl) Tryd.func4 (by kernel_rfl)
    (of_decide_eq_true (by kernel_rfl)) (by unfold Func.isWrapper; first | (rw [if_pos (by decide +kernel)]; kernel_rfl) | (rw [if_neg (by decide +kernel)]; exact ⟨rfl, rfl⟩))
    (fun os started H enc _ F => by rw [OpenClaim.pre_eq_preRow]; exact lifted os started H enc F)

theorem plain (f : FuncId) (fn : Func) (hf : Tryd.pinned.checked.prog.funcNamed "loop.example/g00900/laws.FnExactNoticeText" = some f) (hfn : Tryd.pinned.checked.prog.funcs[f]? = some fn) :
    false = Tryd.pinned.checked.prog.looks [] ∧ ∀ (j : Nat) t, fn.params[j]? = some t → Tryd.pinned.checked.prog.wantsStandIn t = false := by
  obtain rfl : f = 4 := Option.some.inj ((show Tryd.prog.funcNamed "loop.example/g00900/laws.FnExactNoticeText" = some 4 by kernel_rfl).symm.trans hf) |>.symm
  obtain rfl : fn = Tryd.f4 := (Option.some.inj (Tryd.func4.symm.trans hfn)).symm
  have all : Tryd.f4.params.toList.all (fun t => !Tryd.prog.wantsStandIn t) = true := by kernel_rfl
  refine ⟨by kernel_rfl, fun j t ht => ?_⟩
  have := List.all_eq_true.1 all t (Array.mem_toList_iff.2 (Array.mem_of_getElem? ht))
  have hh : Tryd.prog.wantsStandIn t = false := by simpa using this
  exact hh

theorem proved : Rows.FnExactNoticeTextCardSaid :=
  Claim7.holds_tied_plain_at .later [] _ _ _ _ said (fun _ h => by cases h) (by kernel_rfl) (fun _ h => by cases h) fnExactNoticeText_row_tie rfl ⟨rfl, rfl⟩ (by kernel_rfl) rfl plain (by kernel_rfl)

#print axioms proved
end Go.Proofs.YtlkmbamenkjcmaaDoor.fnExactNoticeText

