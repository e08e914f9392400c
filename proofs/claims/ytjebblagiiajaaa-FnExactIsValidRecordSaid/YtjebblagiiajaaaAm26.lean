/- The abstract machine, part 26: code, and a contract from a body. -/
import Derived.Test.YtjebblagiiajaaaAm25
namespace Go.Am
open Go

def amC (P : Program) (T : TypeId → Option TI) : Code → (Exit → S → Prop) → S → Prop
  | .skip, Q, σ => Q .normal σ
  | .region _ ops false, Q, σ => amOps P T ops ops.toList { σ with ep := σ.ep + 1 } (Q .normal)
  | .region _ ⟨l⟩ true, Q, σ => P.follows .mixedOrders = true ∧ amDraw P T l σ.t σ.m (σ.ep + 1) (drawnQ l σ.t σ.m (σ.ep + 1) σ.n σ.pm (Q .normal)) l []
  | .seq x y, Q, σ => amC P T x (thenQ (amC P T y Q) Q) σ
  | .cond c x y, Q, σ =>
    match σ.ev c with
    | .imm (.bool b) => (b = true → amC P T x Q σ) ∧ (b = false → amC P T y Q σ)
    | _ => False
  | .block id c, Q, σ => amC P T c (blockQ id Q) σ
  | .loop c, Q, σ => ∃ I : Nat → S → Prop, (∃ n σ1, Ref σ σ1 ∧ I n σ1) ∧ ∀ n σ', I n σ' → amC P T c (loopQ I n Q) σ'
  | .exit id, Q, σ => Q (.exit id) σ
  | .ret, Q, σ => Q .ret σ
  | _, _, _ => False

section
variable {P : Program} {T : TypeId → Option TI} (hT : TOk P T) {w0 w : World} {A : Nat → Prop} {locs : List (Option Loc)} {β : Nat → Option Loc} {σ : S} {a : Act}

include hT in
/-- The abstract machine's code stands for the model's. -/
theorem amC_sound : ∀ (c : Code) (Q : Exit → S → Prop) (σ : S), amC P T c Q σ → ∀ (β : Nat → Option Loc) (a : Act) (w : World), Sim w0 A locs β σ a w → c.wp P (lift w0 A locs Q) a w := by
  intro c
  induction c with
  | skip => intro Q σ hk β a w h; exact wp_skip ⟨σ, β, hk, h⟩
  | region id ops draw =>
    intro Q σ hk β a w h
    cases draw with
    | true =>
      obtain ⟨l⟩ := ops
      obtain ⟨hm, hk⟩ := hk
      exact draw_sound hT hm (σ := { σ with ep := σ.ep + 1 }) hk (h.epoch _) fun σ' β' a' w' h1 h2 => ⟨σ', β', h1, h2⟩
    | false =>
      refine wp_region_list ?_
      exact amOps_sound hT ops.toList _ _ hk β a w (h.epoch _) fun σ' β' a' w' h1 h2 => ⟨σ', β', h1, h2⟩
  | seq x y ihx ihy =>
    intro Q σ hk β a w h
    refine wp_seq (wp_mono (ihx _ σ hk β a w h) ?_)
    rintro e a' w' ⟨σ', β', h1, h2⟩
    cases e with
    | normal => exact ihy Q σ' h1 β' a' w' h2
    | _ => exact ⟨σ', β', h1, h2⟩
  | cond c x y ihx ihy =>
    intro Q σ hk β a w h
    simp only [amC] at hk
    split at hk
    · rename_i b hb
      have hv := rep_bool (h.imm hb)
      exact wp_cond_split hv (fun ht => ihx Q σ (hk.1 ht) β a w h) (fun hf => ihy Q σ (hk.2 hf) β a w h)
    · exact hk.elim
  | block id c ih =>
    intro Q σ hk β a w h
    refine wp_block (wp_mono (ih _ σ hk β a w h) ?_)
    rintro e a' w' ⟨σ', β', h1, h2⟩
    cases e with
    | exit id' =>
      simp only [blockQ] at h1
      simp only [Exit.inBlock]
      split at h1
      · rename_i e; rw [if_pos e]; exact ⟨σ', β', h1, h2⟩
      · rename_i e; rw [if_neg e]; exact ⟨σ', β', h1, h2⟩
    | _ => exact ⟨σ', β', h1, h2⟩
  | loop c ih =>
    intro Q σ hk β a w h
    obtain ⟨I, ⟨n, σ1, hr, hI⟩, hround⟩ := hk
    obtain ⟨β1, h1⟩ := hr _ _ _ _ _ _ h
    refine wp_loop_ghost (fun n a w => ∃ σ' β', I n σ' ∧ Sim w0 A locs β' σ' a w) n ⟨σ1, β1, hI, h1⟩ ?_
    rintro n' a' w' ⟨σ', β', hI', h2⟩
    refine wp_mono (ih _ σ' (hround n' σ' hI') β' a' w' h2) ?_
    rintro e a'' w'' ⟨σ'', β'', h3, h4⟩
    cases e with
    | normal =>
      obtain ⟨m, σ2, hm, hr2, hI2⟩ := h3
      obtain ⟨β2, h5⟩ := hr2 _ _ _ _ _ _ h4
      exact ⟨m, hm, σ2, β2, hI2, h5⟩
    | _ => exact ⟨σ'', β'', h3, h4⟩
  | rangeFunc f params assign body _ _ => intro Q σ hk; exact hk.elim
  | exit id => intro Q σ hk β a w h; exact wp_exit ⟨σ, β, hk, h⟩
  | scope body _ => intro Q σ hk; exact hk.elim
  | label l => intro Q σ hk; exact hk.elim
  | goto l => intro Q σ hk; exact hk.elim
  | ret => intro Q σ hk β a w h; exact wp_ret ⟨σ, β, hk, h⟩
  | refuse why => intro Q σ hk; exact hk.elim

end

/-- A contract from the body. -/
theorem callOk_of {P : Program} {T : TypeId → Option TI} (hT : TOk P T) {f : FuncId} {fn : Func} {c : Code} (hf : P.funcs[f]? = some fn) (hn : (fn.name == "runtime.NumGoroutine") = false) (hb : fn.body = some c)
    {ins : List In} {out : Out} (hl : ins.length ≤ 1000) (hln : ins.length ≤ fn.ntmps) (hmo : MutOk ins out) (h : amC P T c (retQ T fn ins out) (inS ins fn.ntmps)) : CallOk P f ins out := by
  refine ⟨⟨fn, hf, hn, by rw [hb]; rfl⟩, hl, hmo, fun w A locs β vs hs hsz => ?_⟩
  have hs1 : Sim w A locs β (inS ins fn.ntmps) { tmps := vs ++ Array.replicate (fn.ntmps - vs.size) Go.undef, defers := [] } w := by
    refine { size := by simp [inS, hsz]; omega, defers := rfl, slot := fun i => ?_, ob := hs.ob, inj := hs.inj, new := hs.new, fr := hs.fr, lt := hs.lt, pm := hs.pm }
    by_cases hi : i < vs.size
    · have := hs.slot i
      have e : (vs ++ Array.replicate (fn.ntmps - vs.size) Go.undef).getD i Go.undef = vs.getD i Go.undef := by
        simp [Array.getD_eq_getD_getElem?, Array.getElem?_append_left hi]
      show AvRep w _ _ _ _ ((vs ++ Array.replicate (fn.ntmps - vs.size) Go.undef).getD i Go.undef)
      rw [e]; exact this
    · have e : (vs ++ Array.replicate (fn.ntmps - vs.size) Go.undef).getD i Go.undef = Go.undef := by
        simp only [Array.getD_eq_getD_getElem?, Array.getElem?_append_right (Nat.le_of_not_lt hi), Array.getElem?_replicate]
        split <;> rfl
      show AvRep w _ _ _ (inT ins i) ((vs ++ Array.replicate (fn.ntmps - vs.size) Go.undef).getD i Go.undef)
      rw [e]
      have : ins[i]? = none := List.getElem?_eq_none (by omega)
      unfold inT; rw [this]; rfl
  refine calls_of_wp hf hb (wp_mono (amC_sound hT c _ _ h β _ w hs1) ?_)
  rintro e a' w' ⟨σ', β', h1, h2⟩
  obtain ⟨he, hret⟩ := retOk_of h1
  obtain ⟨vals, β2, h3, h4⟩ := ret_sim hT h2 hl (mutOk_box hmo) hret
  rcases he with rfl | rfl
  · exact ⟨h2.defers, _, h3, vals, β2, rfl, h4⟩
  · exact ⟨h2.defers, _, h3, vals, β2, rfl, h4⟩

end Go.Am
