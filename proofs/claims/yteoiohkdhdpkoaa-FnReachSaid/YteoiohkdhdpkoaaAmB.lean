/- The abstract machine: code, draws, rules. -/
import Derived.Test.YteoiohkdhdpkoaaAmBX
/-! The abstract machine, part 23: what an operation reads, and that its effect is one. -/
namespace Go.Am
open Go

/-- The operands that the abstract machine looks at. -/
def opIn : Op → List Operand
  | .move x | .assign x | .box _ x | .load _ x | .nilCheck x | .unOp _ _ x | .convert _ _ x | .fieldAddr _ x _ | .field _ x _ | .extract x _ => [x]
  | .pick c a b => [c, a, b]
  | .build _ parts => parts.toList.map (·.2)
  | .buildSlice _ _ parts => parts.toList.map (·.2)
  | .store _ x y | .binOp _ _ x y _ | .indexAddr _ x y | .index _ x y | .makeSlice _ x y => [x, y]
  | .makeFunc _ first captured => first.toList ++ captured.toList
  | .slice _ x lo hi mx => x :: (lo.toList ++ (hi.toList ++ mx.toList))
  | .call c => c.args.toList ++ (match c.callee with | .value f => [f] | _ => [])
  | _ => []

theorem amOp_congr {P : Program} {T : TypeId → Option TI} {ρ ρ' : Operand → AV} {m : Nat → Option O} {ep : Nat} {o : Oper} {K : Eff → Prop} (h : ∀ x ∈ opIn o.op, ρ x = ρ' x) (hk : amOp P T ρ m ep o K) : amOp P T ρ' m ep o K := by
  have hmap : ∀ l : List Operand, (∀ x ∈ l, ρ x = ρ' x) → l.map ρ = l.map ρ' := fun l hl => List.map_congr_left hl
  have hopt : ∀ l : Option Operand, (∀ x ∈ l.toList, ρ x = ρ' x) → l.map ρ = l.map ρ' := fun l hl => by
    cases l with
    | none => rfl
    | some x => simp only [Option.map_some]; rw [hl x (by simp)]
  have hpart : ∀ l : List (Nat × Operand), (∀ x ∈ l.map (·.2), ρ x = ρ' x) → (l.map fun x => (x.1, ρ x.2)) = (l.map fun x => (x.1, ρ' x.2)) := fun l hl => by
    refine List.map_congr_left fun x hx => ?_
    rw [hl x.2 (List.mem_map.2 ⟨x, hx, rfl⟩)]
  unfold amOp at hk ⊢
  cases ho : o.op <;> simp only [ho, opIn] at h hk ⊢ <;> first | exact hk.elim | skip
  case move x => rw [← h x (by simp)]; exact hk
  case assign x => rw [← h x (by simp)]; exact hk
  case pick c a b => rw [← h c (by simp), ← h a (by simp), ← h b (by simp)]; exact hk
  case alloc t => exact hk
  case box t x => rw [← h x (by simp)]; exact hk
  case build t parts => rw [← hpart _ h]; exact hk
  case buildSlice t n parts => rw [← hpart _ h]; exact hk
  case load t x => rw [← h x (by simp)]; exact hk
  case store t x y => rw [← h x (by simp), ← h y (by simp)]; exact hk
  case nilCheck x => rw [← h x (by simp)]; exact hk
  case binOp op t x y yt => rw [← h x (by simp), ← h y (by simp)]; exact hk
  case unOp op t x => rw [← h x (by simp)]; exact hk
  case convert s d x => rw [← h x (by simp)]; exact hk
  case makeFunc fn first captured => rw [← hmap first.toList (fun x hx => h x (by simp [hx])), ← hmap captured.toList (fun x hx => h x (by simp [hx]))]; exact hk
  case makeSlice t x y => rw [← h x (by simp), ← h y (by simp)]; exact hk
  case slice t x lo hi mx => rw [← h x (by simp), ← hopt lo (fun x hx => h x (by simp [hx])), ← hopt hi (fun x hx => h x (by simp [hx])), ← hopt mx (fun x hx => h x (by simp [hx]))]; exact hk
  case fieldAddr t x f => rw [← h x (by simp)]; exact hk
  case field t x f => rw [← h x (by simp)]; exact hk
  case indexAddr t x y => rw [← h x (by simp), ← h y (by simp)]; exact hk
  case index t x y => rw [← h x (by simp), ← h y (by simp)]; exact hk
  case extract x i => rw [← h x (by simp)]; exact hk
  case call c =>
    cases hc : c.callee <;> simp only [hc] at h hk ⊢ <;> first | exact hk.elim | skip
    case builtin b => rw [← hmap c.args.toList (fun x hx => h x (by simp at hx; simp [hx]))]; exact hk
    case value f =>
      have he : ∀ md, evMode ρ md c.args.toList = evMode ρ' md c.args.toList := fun md => evMode_congr md _ (fun x hx => h x (by simp at hx; simp [hx]))
      rw [← h f (by simp)]
      simp only [← he]
      exact hk

/-- Its effect is one. -/
def Det (F : (Eff → Prop) → Prop) : Prop := ∀ K, F K → ∃ e, K e ∧ F fun e' => e' = e

theorem det_bin {T : TypeId → Option TI} {op : BinOp} {t : TypeId} {x y : AV} : Det (opBin T op t x y) := by
  intro K h
  unfold opBin at h ⊢
  split at h
  · split at h
    · exact ⟨_, h, rfl⟩
    · exact ⟨_, h, rfl⟩
    · exact h.elim
  · rename_i d d' hne
    simp only
    unfold binK at h ⊢
    (repeat' split at h) <;> first | exact h.elim | (refine ⟨_, h, ?_⟩; simp_all; done) | (refine ⟨_, h.2, ?_⟩; simp_all; done) | (refine ⟨_, h.2.2, ?_⟩; simp_all; done)
  · exact h.elim

theorem det_all :
    (∀ (T : TypeId → Option TI) (m : Nat → Option O) (ep : Nat) (o : Oper) (x : Operand) (v : AV), Det (opMove T m ep o x v)) ∧
    (∀ (T : TypeId → Option TI) (m : Nat → Option O) (ep : Nat) (o : Oper) (t : TypeId), Det (opAlloc T m ep o t)) ∧
    (∀ (m : Nat → Option O) (ep : Nat) (o : Oper) (t : TypeId) (x : AV), Det (opBox m ep o t x)) ∧
    (∀ (T : TypeId → Option TI) (m : Nat → Option O) (ep : Nat) (o : Oper) (t : TypeId) (n : Nat) (parts : List (Nat × AV)), Det (opBuildSlice T m ep o t n parts)) ∧
    (∀ (T : TypeId → Option TI) (m : Nat → Option O) (t : TypeId) (x : AV), Det (opLoad T m t x)) ∧
    (∀ (T : TypeId → Option TI) (m : Nat → Option O) (t : TypeId) (x v : AV), Det (opStore T m t x v)) ∧
    (∀ (m : Nat → Option O) (x : AV), Det (opNil m x)) ∧
    (∀ (op : UnOp) (x : AV), Det (opUn op x)) ∧
    (∀ (T : TypeId → Option TI) (s d : TypeId) (x : AV), Det (opConv T s d x)) ∧
    (∀ (fn : Fn) (first captured : List AV), Det (opFunc fn first captured)) ∧
    (∀ (T : TypeId → Option TI) (m : Nat → Option O) (ep : Nat) (o : Oper) (t : TypeId) (l c : AV), Det (opMake T m ep o t l c)) ∧
    (∀ (T : TypeId → Option TI) (m : Nat → Option O) (t : TypeId) (x : AV) (f : Nat), Det (opFieldAddr T m t x f)) ∧
    (∀ (T : TypeId → Option TI) (m : Nat → Option O) (t : TypeId) (x : AV) (f : Nat), Det (opField T m t x f)) ∧
    (∀ (T : TypeId → Option TI) (m : Nat → Option O) (t : TypeId) (x y : AV), Det (opIndexAddr T m t x y)) ∧
    (∀ (T : TypeId → Option TI) (t : TypeId) (x y : AV), Det (opIndex T t x y)) ∧
    (∀ (x : AV) (i : Nat), Det (opExtract x i)) ∧
    (∀ (T : TypeId → Option TI) (m : Nat → Option O) (t : TypeId) (x : AV), Det (opLen T m t x)) ∧
    (∀ (T : TypeId → Option TI) (m : Nat → Option O) (ep : Nat) (o : Oper) (t : TypeId) (x y : AV), Det (opAppend T m ep o t x y)) := by
  refine ⟨?_, ?_, ?_, ?_, ?_, ?_, ?_, ?_, ?_, ?_, ?_, ?_, ?_, ?_, ?_, ?_, ?_, ?_⟩ <;> intros <;> intro K h <;> (first | unfold opMove at h ⊢ | unfold opAlloc at h ⊢ | unfold opBox at h ⊢ | unfold opBuildSlice at h ⊢ | unfold opLoad at h ⊢ | unfold opStore at h ⊢ | unfold opNil at h ⊢ | unfold opUn at h ⊢ | unfold opConv at h ⊢ | unfold opFunc at h ⊢ | unfold opMake at h ⊢ | unfold opFieldAddr at h ⊢ | unfold opField at h ⊢ | unfold opIndexAddr at h ⊢ | unfold opIndex at h ⊢ | unfold opExtract at h ⊢ | unfold opLen at h ⊢ | unfold opAppend at h ⊢) <;> (repeat' split at h) <;> first | exact h.elim | (refine ⟨_, h, ?_⟩; simp_all; done) | (refine ⟨_, h.2, ?_⟩; simp_all; done) | (refine ⟨_, h.2.2, ?_⟩; simp_all; done) | (refine ⟨_, h.2.2.2, ?_⟩; simp_all; done) | (refine ⟨_, h.2.2.2.2, ?_⟩; simp_all; done) | (refine ⟨_, h.2.2.2.2.2, ?_⟩; simp_all; done) | (refine ⟨_, h.2.2.2.2.2.2, ?_⟩; simp_all; done) | (refine ⟨_, h.2.2.2.2.2.2.2, ?_⟩; simp_all; done) | (refine ⟨_, h.2.2.2.2.2.2.2.2, ?_⟩; simp_all; done) | (refine ⟨_, h.2.2.2.2.2.2.2.2.2, ?_⟩; simp_all; done) | (exact ⟨_, h.2, h.1, rfl⟩) | (exact ⟨_, h.2.2, h.1, h.2.1, rfl⟩) | (exact ⟨_, h.2.2.2, h.1, h.2.1, h.2.2.1, rfl⟩) | (exact ⟨_, h.2.2.2.2, h.1, h.2.1, h.2.2.1, h.2.2.2.1, rfl⟩) | (exact ⟨_, h.2.2.2.2.2, h.1, h.2.1, h.2.2.1, h.2.2.2.1, h.2.2.2.2.1, rfl⟩) | (exact ⟨_, h.2.2.2.2.2.2, h.1, h.2.1, h.2.2.1, h.2.2.2.1, h.2.2.2.2.1, h.2.2.2.2.2.1, rfl⟩) | (exact ⟨_, h.2.2.2.2.2.2.2, h.1, h.2.1, h.2.2.1, h.2.2.2.1, h.2.2.2.2.1, h.2.2.2.2.2.1, h.2.2.2.2.2.2.1, rfl⟩) | (exact ⟨_, h.2.2.2.2.2.2.2.2, h.1, h.2.1, h.2.2.1, h.2.2.2.1, h.2.2.2.2.1, h.2.2.2.2.2.1, h.2.2.2.2.2.2.1, h.2.2.2.2.2.2.2.1, rfl⟩) | (exact ⟨_, h.2.2.2.2.2.2.2.2.2, h.1, h.2.1, h.2.2.1, h.2.2.2.1, h.2.2.2.2.1, h.2.2.2.2.2.1, h.2.2.2.2.2.2.1, h.2.2.2.2.2.2.2.1, h.2.2.2.2.2.2.2.2.1, rfl⟩) | (exact ⟨_, h.2.2.2.2.2.2.2.2.2.2, h.1, h.2.1, h.2.2.1, h.2.2.2.1, h.2.2.2.2.1, h.2.2.2.2.2.1, h.2.2.2.2.2.2.1, h.2.2.2.2.2.2.2.1, h.2.2.2.2.2.2.2.2.1, h.2.2.2.2.2.2.2.2.2.1, rfl⟩) | (simp at h; done)

theorem det_opMove {T : TypeId → Option TI} {m : Nat → Option O} {ep : Nat} {o : Oper} {x : Operand} {v : AV} : Det (opMove T m ep o x v) := det_all.1 _ _ _ _ _ _

theorem det_opAlloc {T : TypeId → Option TI} {m : Nat → Option O} {ep : Nat} {o : Oper} {t : TypeId} : Det (opAlloc T m ep o t) := det_all.2.1 _ _ _ _ _

theorem det_opBox {m : Nat → Option O} {ep : Nat} {o : Oper} {t : TypeId} {x : AV} : Det (opBox m ep o t x) := det_all.2.2.1 _ _ _ _ _

theorem det_opBuild {T : TypeId → Option TI} {m : Nat → Option O} {t : TypeId} {parts : List (Nat × AV)} : Det (opBuild T m t parts) := by
  intro K h
  unfold opBuild at h ⊢
  split at h
  · rcases h with h | h
    · split at h
      · rename_i ht _ _ _ hp
        exact ⟨_, h, .inl rfl⟩
      · exact h.elim
    · split at h
      · rename_i hp
        exact ⟨_, h, .inr rfl⟩
      · exact h.elim
  · split at h
    · split at h
      · rename_i hp
        exact ⟨_, h, rfl⟩
      · exact h.elim
    · exact h.elim
  · exact h.elim

theorem det_opBuildSlice {T : TypeId → Option TI} {m : Nat → Option O} {ep : Nat} {o : Oper} {t : TypeId} {n : Nat} {parts : List (Nat × AV)} : Det (opBuildSlice T m ep o t n parts) := det_all.2.2.2.1 _ _ _ _ _ _ _

theorem det_opLoad {T : TypeId → Option TI} {m : Nat → Option O} {t : TypeId} {x : AV} : Det (opLoad T m t x) := det_all.2.2.2.2.1 _ _ _ _

theorem det_opStore {T : TypeId → Option TI} {m : Nat → Option O} {t : TypeId} {x v : AV} : Det (opStore T m t x v) := det_all.2.2.2.2.2.1 _ _ _ _ _

theorem det_opNil {m : Nat → Option O} {x : AV} : Det (opNil m x) := det_all.2.2.2.2.2.2.1 _ _

theorem det_opUn {op : UnOp} {x : AV} : Det (opUn op x) := det_all.2.2.2.2.2.2.2.1 _ _

theorem det_opConv {T : TypeId → Option TI} {s d : TypeId} {x : AV} : Det (opConv T s d x) := det_all.2.2.2.2.2.2.2.2.1 _ _ _ _

theorem det_opAggEq {P : Program} {op : BinOp} {t : TypeId} {ds ds' : List D} : Det (opAggEq P op t ds ds') := by
  rintro K ⟨h1, h2⟩
  unfold opAggEq
  cases hb : dsEq ds ds' with
  | none => rw [hb] at h2; exact h2.elim
  | some b =>
    rw [hb] at h2
    simp only at h2 ⊢
    split at h2
    · exact ⟨_, h2, h1, rfl⟩
    · exact ⟨_, h2, h1, rfl⟩
    · exact h2.elim

theorem det_opConvB {T : TypeId → Option TI} {m : Nat → Option O} {ep : Nat} {o : Oper} {s d : TypeId} {x : AV} : Det (opConvB T m ep o s d x) := by
  intro K h
  unfold opConvB at h ⊢
  (repeat' split at h) <;> first | exact h.elim | exact det_opConv K h | (refine ⟨_, h, ?_⟩; simp_all; done) | (refine ⟨_, h.2, ?_⟩; simp_all; done) | exact ⟨_, h.2, h.1, rfl⟩

theorem det_opFunc {fn : Fn} {first captured : List AV} : Det (opFunc fn first captured) := det_all.2.2.2.2.2.2.2.2.2.1 _ _ _

theorem det_opMake {T : TypeId → Option TI} {m : Nat → Option O} {ep : Nat} {o : Oper} {t : TypeId} {l c : AV} : Det (opMake T m ep o t l c) := det_all.2.2.2.2.2.2.2.2.2.2.1 _ _ _ _ _ _ _

theorem det_opFieldAddr {T : TypeId → Option TI} {m : Nat → Option O} {t : TypeId} {x : AV} {f : Nat} : Det (opFieldAddr T m t x f) := det_all.2.2.2.2.2.2.2.2.2.2.2.1 _ _ _ _ _

theorem det_opField {T : TypeId → Option TI} {m : Nat → Option O} {t : TypeId} {x : AV} {f : Nat} : Det (opField T m t x f) := det_all.2.2.2.2.2.2.2.2.2.2.2.2.1 _ _ _ _ _

theorem det_opIndexAddr {T : TypeId → Option TI} {m : Nat → Option O} {t : TypeId} {x y : AV} : Det (opIndexAddr T m t x y) := det_all.2.2.2.2.2.2.2.2.2.2.2.2.2.1 _ _ _ _ _

theorem det_opIndex {T : TypeId → Option TI} {t : TypeId} {x y : AV} : Det (opIndex T t x y) := det_all.2.2.2.2.2.2.2.2.2.2.2.2.2.2.1 _ _ _ _

theorem det_opExtract {x : AV} {i : Nat} : Det (opExtract x i) := det_all.2.2.2.2.2.2.2.2.2.2.2.2.2.2.2.1 _ _

theorem det_opLen {T : TypeId → Option TI} {m : Nat → Option O} {t : TypeId} {x : AV} : Det (opLen T m t x) := det_all.2.2.2.2.2.2.2.2.2.2.2.2.2.2.2.2.1 _ _ _ _

theorem det_opMinMax {b : Bool} {x y : AV} : Det (opMinMax b x y) := by
  intro K h
  unfold opMinMax at h ⊢
  split at h
  · exact ⟨_, h.2, h.1, rfl⟩
  · exact h.elim

theorem det_opAppend {T : TypeId → Option TI} {m : Nat → Option O} {ep : Nat} {o : Oper} {t : TypeId} {x y : AV} : Det (opAppend T m ep o t x y) := det_all.2.2.2.2.2.2.2.2.2.2.2.2.2.2.2.2.2 _ _ _ _ _ _ _

theorem det_opPick {c a b : AV} : Det (opPick c a b) := by
  intro K h
  unfold opPick at h ⊢
  split at h
  · rename_i t
    cases t with
    | true => exact ⟨_, h.1 rfl, fun _ => rfl, fun e => by cases e⟩
    | false => exact ⟨_, h.2 rfl, fun e => (by cases e), fun _ => rfl⟩
  · exact h.elim

theorem det_opCall {P : Program} {m : Nat → Option O} {ep : Nat} {o : Oper} {f : FuncId} {args : List Nat → List AV} : Det (opCall P m ep o f args) := by
  intro K h
  obtain ⟨md, out, h⟩ := h
  split at h
  · rename_i ins vs fz gs ha
    obtain ⟨h1, h2, h3, h4, h5⟩ := h
    refine ⟨_, h5, md, out, ?_⟩
    rw [ha]
    exact ⟨h1, h2, h3, h4, rfl⟩
  · exact h.elim

theorem det_bnd {x : Option AV} {d : Int} {F : Int → (Eff → Prop) → Prop} (hF : ∀ n, Det (F n)) : Det (fun K' => bnd x d fun n => F n K') := by
  intro K h
  unfold bnd at h ⊢
  split at h
  · exact hF _ K h
  · exact hF _ K h
  · exact h.elim

theorem det_and {c : Prop} {F : (Eff → Prop) → Prop} (hF : Det F) : Det (fun K => c ∧ F K) := fun K h => by
  obtain ⟨e, h1, h2⟩ := hF K h.2
  exact ⟨e, h1, h.1, h2⟩

theorem det_ret {e : Eff} : Det (fun K => K e) := fun _ h => ⟨e, h, rfl⟩

theorem det_false : Det (fun _ => False) := fun _ h => h.elim

theorem det_opSlice {T : TypeId → Option TI} {m : Nat → Option O} {t : TypeId} {x : AV} {lo hi mx : Option AV} : Det (opSlice T m t x lo hi mx) := by
  unfold opSlice
  refine det_and ?_
  intro K h
  split at h
  · simp only
    exact det_bnd (fun l => det_bnd fun r => det_and (det_and (det_and det_ret))) K h
  · simp only
    split at h
    · exact det_and (det_bnd (fun l => det_bnd fun r => det_and (det_and (det_and det_ret)))) K h
    · exact h.elim
  · simp only
    split at h
    · exact det_and (det_bnd (fun l => det_bnd fun r => det_and (det_and (det_and det_ret)))) K h
    · exact h.elim
  · simp only
    split at h
    · obtain ⟨q1, q2, q3, q4, h⟩ := h
      split at h
      · exact ⟨_, h.2, q1, q2, q3, q4, h.1, rfl⟩
      · exact h.elim
    · exact h.elim
  · exact h.elim

theorem det_opClear {T : TypeId → Option TI} {m : Nat → Option O} {t : TypeId} {x : AV} : Det (opClear T m t x) := by
  intro K h
  unfold opClear at h ⊢
  (repeat' split at h) <;> first | exact h.elim | exact ⟨_, h.2, h.1, rfl⟩

theorem det_opBuiltin {T : TypeId → Option TI} {m : Nat → Option O} {ep : Nat} {o : Oper} {b : Builtin} {args : List AV} {ts : List TypeId} : Det (opBuiltin T m ep o b args ts) := by
  intro K h
  unfold opBuiltin at h ⊢
  split at h
  · exact det_opLen K h
  · exact det_and det_opAppend K h
  · exact det_opMinMax K h
  · exact det_opMinMax K h
  · exact det_opClear K h
  · exact h.elim

/-- Operations whose effect is one: all but a slice's comparison with nil. -/
def detOk : Op → Bool
  | .binOp _ _ _ (.const (.slice none 0 0)) _ => false
  | _ => true

theorem det_amOp {P : Program} {T : TypeId → Option TI} {ρ : Operand → AV} {m : Nat → Option O} {ep : Nat} {o : Oper} (hdet : detOk o.op = true) : Det (amOp P T ρ m ep o) := by
  intro K h
  unfold amOp at h ⊢
  cases ho : o.op <;> simp only [ho] at h ⊢ <;> first | exact h.elim | skip
  case move x => exact det_opMove K h
  case assign x => exact det_opMove K h
  case pick c a b => exact det_opPick K h
  case alloc t => exact det_opAlloc K h
  case box t x => exact det_opBox K h
  case build t parts => exact det_opBuild K h
  case buildSlice t n parts => exact det_opBuildSlice K h
  case load t x => exact det_opLoad K h
  case store t x y => exact det_opStore K h
  case nilCheck x => exact det_opNil K h
  case binOp op t x y yt =>
    unfold opCmp at h ⊢
    split at h
    · rw [ho] at hdet; cases hdet
    · unfold opCmpV at h ⊢
      split at h
      · exact det_opAggEq K h
      · exact det_bin K h
  case unOp op t x => exact det_opUn K h
  case convert s d x => exact det_opConvB K h
  case makeFunc fn first captured => exact det_opFunc K h
  case makeSlice t x y => exact det_opMake K h
  case slice t x lo hi mx => exact det_opSlice K h
  case fieldAddr t x f => exact det_opFieldAddr K h
  case field t x f => exact det_opField K h
  case indexAddr t x y => exact det_opIndexAddr K h
  case index t x y => exact det_opIndex K h
  case extract x i => exact det_opExtract K h
  case call c =>
    cases hc : c.callee <;> simp only [hc] at h ⊢ <;> first | exact h.elim | skip
    case builtin b => exact det_opBuiltin K h
    case value f =>
      split at h
      · exact det_opCall K h
      · exact h.elim

end Go.Am

namespace Go.Am
open Go
theorem amOpX_congr {P : Program} {T : TypeId → Option TI} {ρ ρ' : Operand → AV} {m : Nat → Option O} {ep : Nat} {o : Oper} {K : Eff → Prop} (h : ∀ x ∈ opIn o.op, ρ x = ρ' x) (hk : amOpX P T ρ m ep o K) : amOpX P T ρ' m ep o K := by
  rcases hk with hk | ⟨d, v, id, ty, sz, rows, I, I', h1, hL, h2⟩
  · exact .inl (amOp_congr h hk)
  · exact .inr ⟨d, v, id, ty, sz, rows, I, I', h1, amOp_congr h hL, h2⟩
theorem det_amOpX {P : Program} {T : TypeId → Option TI} {ρ : Operand → AV} {m : Nat → Option O} {ep : Nat} {o : Oper} (hdet : detOk o.op = true) : Det (amOpX P T ρ m ep o) := by
  intro K h
  rcases h with h | ⟨d, v, id, ty, sz, rows, I, I', h1, hL, h2, h3, h4, h5, hK⟩
  · obtain ⟨e, h1, h2⟩ := det_amOp hdet K h
    exact ⟨e, h1, .inl h2⟩
  · exact ⟨_, hK, .inr ⟨d, v, id, ty, sz, rows, I, I', h1, hL, h2, h3, h4, h5, rfl⟩⟩
end Go.Am

/-! The abstract machine, part 24: regions that draw their order: one walk in the text's order serves every order. -/
namespace Go.Am
open Go

def sel {α : Type} (b : Bool) (x y : α) : α := match b with | true => x | false => y

def ddir (o : Oper) : List Nat := (o.after.toList.filter (Region.binds .any)).map (·.on)

/-- With what the operations below n need. -/
def cloD (l : List Oper) : Nat → List Nat → List Nat
  | n + 1, a => cloD l n (sel (a.contains n) (a ++ match l[n]? with | some o => (ddir o).filter fun i => !a.contains i | none => []) a)
  | 0, a => a

/-- The operations that must be behind an operation. -/
def ddeps (l : List Oper) (o : Oper) : List Nat := cloD l l.length (ddir o)

theorem cloD_le (l : List Oper) : ∀ (n : Nat) (a : List Nat) (i : Nat), i ∈ a → i ∈ cloD l n a
  | 0, _, _, h => h
  | n + 1, a, i, h => by
    unfold cloD
    refine cloD_le l n _ i ?_
    cases a.contains n with
    | true => exact List.mem_append.2 (.inl h)
    | false => exact h

theorem cloD_in (l : List Oper) {X : Nat → Bool} (hX : ∀ (i : Nat) (o : Oper), l[i]? = some o → X i = true → ∀ k ∈ ddir o, X k = true) : ∀ (n : Nat) (a : List Nat), (∀ i ∈ a, X i = true) → ∀ i ∈ cloD l n a, X i = true
  | 0, _, h => h
  | n + 1, a, h => by
    unfold cloD
    refine cloD_in l hX n _ ?_
    cases hc : a.contains n with
    | false => exact h
    | true =>
      intro i hi
      rcases List.mem_append.1 hi with hi | hi
      · exact h i hi
      · split at hi
        · next o ho => exact hX n o ho (h n (by simpa using hc)) i (List.mem_filter.1 hi).1
        · cases hi

/-- The slots behind the operations of X. -/
def tGo (X : Nat → Bool) : Nat → List Oper → List Eff → (Nat → AV) → (Nat → AV)
  | i, o :: l, e :: es, t => tGo X (i + 1) l es (sel (X i) (putT t o.dst e.v) t)
  | _, [], _, t => t
  | _, _ :: _, [], t => t

/-- The objects behind the operations of X. -/
def mGo (X : Nat → Bool) : Nat → List Eff → (Nat → Option O) → (Nat → Option O)
  | i, e :: es, m => mGo X (i + 1) es (sel (X i) (upm m e.up) m)
  | _, [], m => m

def ids (e : Eff) : List Nat := e.up.map (·.1)

def touchOk (D : List Nat) : Nat → List Eff → Nat → Bool
  | i, e :: es, id => (D.contains i || !(ids e).contains id) && touchOk D (i + 1) es id
  | _, [], _ => true

def memless : Op → Bool
  | .move _ | .assign _ | .pick .. | .binOp .. | .unOp .. | .alloc _ | .index .. | .extract .. => true
  | _ => false

def ownId (ep : Nat) (o : Oper) (id : Nat) : Bool := id % 16777216 == nid ep (o.dst.getD 0) % 16777216

def mixIds : List AV → List Nat
  | [] => []
  | .own id _ _ :: r => id :: mixIds r
  | _ :: r => mixIds r
/-- The objects that a value names. -/
def avIds : AV → List Nat
  | .mix l => mixIds l
  | .own id _ _ => [id]
  | .box id _ => [id]
  | .eptr id _ _ => [id]
  | .clo _ ids => ids
  | .tv id _ => [id]
  | _ => []
def refsOf (ρ : Operand → AV) : List Operand → List Nat
  | [] => []
  | x :: r => avIds (ρ x) ++ refsOf ρ r
/-- An operation looks at no object but those that its operands name. -/
def hides (rf : List Nat) (op : Op) (id : Nat) : Bool := memless op || (!rf.contains id && !(match op with | .load tt _ => id == 9000 + tt | _ => false))

/-- The objects that an operation may look at. -/
def mSee (l : List Oper) (ρ : Operand → AV) (ep : Nat) (o : Oper) (acc : List Eff) (m : Nat → Option O) (id : Nat) : Option O :=
  sel (!(hides (refsOf ρ (opIn o.op)) o.op id && !ownId ep o id) && touchOk (ddeps l o) 0 acc id) (mGo (ddeps l o).contains 0 acc m id) none

def tSee (l : List Oper) (o : Oper) (acc : List Eff) (t : Nat → AV) : Nat → AV := tGo (ddeps l o).contains 0 l acc t

def amDraw (P : Program) (T : TypeId → Option TI) (l : List Oper) (t : Nat → AV) (m : Nat → Option O) (ep : Nat) (k : List Eff → Prop) : List Oper → List Eff → Prop
  | [], acc => k acc
  | o :: rest, acc =>
    match detOk o.op with
    | false => False
    | true =>
      match o.guard with
      | none => amOpX P T (evT (tSee l o acc t)) (mSee l (evT (tSee l o acc t)) ep o acc m) ep o fun e => amDraw P T l t m ep k rest (acc ++ [e])
      | some (g, want) =>
        match (acc.getD g ⟨.dead, []⟩).v with
        | .imm (.bool b) => (b = want → amOpX P T (evT (tSee l o acc t)) (mSee l (evT (tSee l o acc t)) ep o acc m) ep o fun e => amDraw P T l t m ep k rest (acc ++ [e])) ∧
            (b = !want → amDraw P T l t m ep k rest (acc ++ [⟨.undef, []⟩]))
        | .undef => amDraw P T l t m ep k rest (acc ++ [⟨.undef, []⟩])
        | _ => False

/-- What one operation came to. -/
def Came (P : Program) (T : TypeId → Option TI) (l : List Oper) (t : Nat → AV) (m : Nat → Option O) (ep : Nat) (es : List Eff) (j : Nat) (o : Oper) (e : Eff) : Prop :=
  ((o.guard = none ∨ ∃ g want, o.guard = some (g, want) ∧ (es.getD g ⟨.dead, []⟩).v = .imm (.bool want)) ∧ amOpX P T (evT (tSee l o (es.take j) t)) (mSee l (evT (tSee l o (es.take j) t)) ep o (es.take j) m) ep o fun e' => e' = e) ∨
  (∃ g want, o.guard = some (g, want) ∧ ((es.getD g ⟨.dead, []⟩).v = .imm (.bool (!want)) ∨ (es.getD g ⟨.dead, []⟩).v = .undef) ∧ e = ⟨.undef, []⟩)

theorem getD_app {es : List Eff} {d : Eff} {g : Nat} (h : g < es.length) (r : List Eff) : (es ++ r).getD g d = es.getD g d := by
  simp [List.getD, List.getElem?_append_left h]

theorem guard_lt {es : List Eff} {g : Nat} (h : (es.getD g ⟨.dead, []⟩).v ≠ .dead) : g < es.length := by
  refine Classical.byContradiction fun hn => h ?_
  simp [List.getD, List.getElem?_eq_none (Nat.le_of_not_lt hn)]

theorem amDraw_out {P : Program} {T : TypeId → Option TI} {l : List Oper} {t : Nat → AV} {m : Nat → Option O} {ep : Nat} {k : List Eff → Prop} : ∀ (rest : List Oper) (acc : List Eff), amDraw P T l t m ep k rest acc →
    ∃ es, k (acc ++ es) ∧ es.length = rest.length ∧ ∀ (j : Nat) (o : Oper) (e : Eff), rest[j]? = some o → es[j]? = some e → Came P T l t m ep (acc ++ es) (acc.length + j) o e
  | [], acc, h => ⟨[], by unfold amDraw at h; simpa using h, rfl, fun j o e h => by simp at h⟩
  | o :: rest, acc, h => by
    have key : ∀ e, Came P T l t m ep acc acc.length o e → (∀ es : List Eff, Came P T l t m ep acc acc.length o e → Came P T l t m ep (acc ++ ([e] ++ es)) acc.length o e) → amDraw P T l t m ep k rest (acc ++ [e]) →
        ∃ es, k (acc ++ es) ∧ es.length = (o :: rest).length ∧ ∀ (j : Nat) (o' : Oper) (e' : Eff), (o :: rest)[j]? = some o' → es[j]? = some e' → Came P T l t m ep (acc ++ es) (acc.length + j) o' e' := by
      intro e hc hext hd
      obtain ⟨es, h1, h2, h3⟩ := amDraw_out rest _ hd
      refine ⟨e :: es, by simpa using h1, by simp [h2], fun j o' e' hj he => ?_⟩
      cases j with
      | zero =>
        simp at hj he; subst hj he
        exact hext es hc
      | succ j =>
        have := h3 j o' e' (by simpa using hj) (by simpa using he)
        simp only [List.append_assoc, List.singleton_append, List.length_append, List.length_cons, List.length_nil] at this
        rw [show acc.length + (j + 1) = acc.length + (0 + 1) + j from by omega]
        exact this
    have hext : ∀ e (es : List Eff), Came P T l t m ep acc acc.length o e → Came P T l t m ep (acc ++ ([e] ++ es)) acc.length o e := by
      intro e es hc
      have htake : (acc ++ ([e] ++ es)).take acc.length = acc.take acc.length := by simp
      rcases hc with ⟨hg, ho⟩ | ⟨g, want, hg, hv, he⟩
      · refine .inl ⟨?_, by rw [htake]; exact ho⟩
        rcases hg with hg | ⟨g, want, hg, hv⟩
        · exact .inl hg
        · refine .inr ⟨g, want, hg, ?_⟩
          rw [getD_app (guard_lt (by rw [hv]; intro e; cases e))]; exact hv
      · refine .inr ⟨g, want, hg, ?_, he⟩
        have hlt : g < acc.length := guard_lt (by rcases hv with hv | hv <;> (rw [hv]; intro e; cases e))
        rw [getD_app hlt]; exact hv
    unfold amDraw at h
    have hself : acc.take acc.length = acc := by simp
    split at h
    · exact h.elim
    rename_i hdet
    split at h
    · rename_i hg
      obtain ⟨e, h1, h2⟩ := det_amOpX hdet _ h
      exact key e (.inl ⟨.inl hg, by rw [hself]; exact h2⟩) (hext e) h1
    · rename_i g want hg
      split at h
      · rename_i b hb
        by_cases hw : b = want
        · obtain ⟨e, h1, h2⟩ := det_amOpX hdet _ (h.1 hw)
          exact key e (.inl ⟨.inr ⟨g, want, hg, by rw [hb, hw]⟩, by rw [hself]; exact h2⟩) (hext e) h1
        · have hbw : b = !want := by cases b <;> cases want <;> simp_all
          exact key _ (.inr ⟨g, want, hg, .inl (by rw [hb, hbw]), rfl⟩) (hext _) (h.2 hbw)
      · rename_i hb
        exact key _ (.inr ⟨g, want, hg, .inr hb, rfl⟩) (hext _) h
      · exact h.elim

/-! ### Laws of the two walks over X -/

theorem putT_same {t t' : Nat → AV} {d : Option Nat} {v : AV} {s : Nat} (h : t s = t' s) : putT t d v s = putT t' d v s := by
  cases d with
  | none => exact h
  | some d => simp only [putT, upd]; split <;> first | rfl | exact h

theorem putT_other {t : Nat → AV} {d : Option Nat} {v : AV} {s : Nat} (h : d ≠ some s) : putT t d v s = t s := by
  cases d with
  | none => rfl
  | some d => simp only [putT, upd]; rw [if_neg]; intro e; subst e; exact h rfl

theorem tGo_at {X Y : Nat → Bool} {s : Nat} : ∀ (l : List Oper) (es : List Eff) (i : Nat) (t t' : Nat → AV), t s = t' s → (∀ k o, l[k]? = some o → o.dst = some s → X (i + k) = Y (i + k)) → tGo X i l es t s = tGo Y i l es t' s
  | [], es, i, t, t', h, _ => by cases es <;> exact h
  | o :: l, [], i, t, t', h, _ => h
  | o :: l, e :: es, i, t, t', h, hx => by
    unfold tGo
    refine tGo_at l es (i + 1) _ _ ?_ fun k o' hk hd => by
      have := hx (k + 1) o' (by simpa using hk) hd
      rwa [show i + (k + 1) = i + 1 + k from by omega] at this
    by_cases hd : o.dst = some s
    · have := hx 0 o rfl hd
      simp only [Nat.add_zero] at this
      rw [this]
      cases Y i with
      | true => exact putT_same h
      | false => exact h
    · have h1 : ∀ b, sel b (putT t o.dst e.v) t s = t s := fun b => by cases b <;> first | rfl | exact putT_other hd
      have h2 : ∀ b, sel b (putT t' o.dst e.v) t' s = t' s := fun b => by cases b <;> first | rfl | exact putT_other hd
      rw [h1, h2]; exact h

theorem tGo_take {Y : Nat → Bool} : ∀ (l : List Oper) (es : List Eff) (k i : Nat) (t : Nat → AV), (∀ k', i + k ≤ k' → Y k' = false) → tGo Y i l (es.take k) t = tGo Y i l es t
  | [], es, k, i, t, _ => by cases es.take k <;> cases es <;> rfl
  | o :: l, [], k, i, t, _ => by simp
  | o :: l, e :: es, 0, i, t, h => by
    have : ∀ (l : List Oper) (es : List Eff) (i : Nat) (t : Nat → AV), (∀ k', i ≤ k' → Y k' = false) → tGo Y i l es t = t := by
      intro l
      induction l with
      | nil => intro es i t _; cases es <;> rfl
      | cons o l ih =>
        intro es i t h
        cases es with
        | nil => rfl
        | cons e es =>
          unfold tGo
          rw [h i (Nat.le_refl _)]
          exact ih es (i + 1) t fun k' hk => h k' (by omega)
    rw [this (o :: l) (e :: es) i t (by simpa using h)]
    rfl
  | o :: l, e :: es, k + 1, i, t, h => by
    simp only [List.take_succ_cons, tGo]
    exact tGo_take l es k (i + 1) _ fun k' hk => h k' (by omega)

theorem putT_comm {t : Nat → AV} {d d' : Option Nat} {v v' : AV} (h : ∀ s, d = some s → d' ≠ some s) : putT (putT t d v) d' v' = putT (putT t d' v') d v := by
  funext s
  by_cases h1 : d = some s
  · subst h1
    have h2 := h s rfl
    rw [putT_other h2]
    simp [putT, upd]
  · rw [putT_other (d := d) (t := putT t d' v') h1]
    exact putT_same (putT_other h1)

theorem tGo_put {X : Nat → Bool} {d : Option Nat} {v : AV} : ∀ (l : List Oper) (es : List Eff) (i : Nat) (t : Nat → AV), (∀ k o, l[k]? = some o → X (i + k) = true → ∀ s, d = some s → o.dst ≠ some s) → tGo X i l es (putT t d v) = putT (tGo X i l es t) d v
  | [], es, i, t, _ => by cases es <;> rfl
  | o :: l, [], i, t, _ => rfl
  | o :: l, e :: es, i, t, h => by
    unfold tGo
    have hrest : ∀ k o', l[k]? = some o' → X (i + 1 + k) = true → ∀ s, d = some s → o'.dst ≠ some s := fun k o' hk hx => h (k + 1) o' (by simpa using hk) (by rw [show i + (k + 1) = i + 1 + k from by omega]; exact hx)
    cases hX : X i with
    | false => exact tGo_put l es (i + 1) t hrest
    | true =>
      show tGo X (i + 1) l es (putT (putT t d v) o.dst e.v) = putT (tGo X (i + 1) l es (putT t o.dst e.v)) d v
      rw [putT_comm (h 0 o rfl hX)]
      exact tGo_put l es (i + 1) _ hrest

theorem upm_same {m m' : Nat → Option O} {id : Nat} : ∀ (a : List (Nat × O)), m id = m' id → upm m a id = upm m' a id := by
  intro a
  induction a generalizing m m' with
  | nil => exact fun h => h
  | cons x a ih =>
    intro h
    obtain ⟨k, o⟩ := x
    refine ih ?_
    simp only [upd]
    split <;> first | rfl | exact h

theorem upm_other {m : Nat → Option O} {id : Nat} : ∀ (a : List (Nat × O)), id ∉ a.map (·.1) → upm m a id = m id := by
  intro a
  induction a generalizing m with
  | nil => exact fun _ => rfl
  | cons x a ih =>
    intro h
    obtain ⟨k, o⟩ := x
    simp only [List.map_cons, List.mem_cons, not_or] at h
    show upm (upd m k (some o)) a id = m id
    rw [ih h.2, upd_other _ _ h.1]

theorem upm_comm {m : Nat → Option O} {a b : List (Nat × O)} (h : ∀ id ∈ a.map (·.1), id ∉ b.map (·.1)) : upm (upm m a) b = upm (upm m b) a := by
  funext id
  by_cases ha : id ∈ a.map (·.1)
  · rw [upm_other b (h id ha)]
    exact upm_same a (upm_other b (h id ha)).symm
  · rw [upm_other a ha]
    exact upm_same b (upm_other a ha)

theorem mGo_at {X Y : Nat → Bool} {id : Nat} : ∀ (es : List Eff) (i : Nat) (m m' : Nat → Option O), m id = m' id → (∀ k e, es[k]? = some e → id ∈ ids e → X (i + k) = Y (i + k)) → mGo X i es m id = mGo Y i es m' id
  | [], i, m, m', h, _ => h
  | e :: es, i, m, m', h, hx => by
    unfold mGo
    refine mGo_at es (i + 1) _ _ ?_ fun k e' hk hd => by
      have := hx (k + 1) e' (by simpa using hk) hd
      rwa [show i + (k + 1) = i + 1 + k from by omega] at this
    by_cases hd : id ∈ ids e
    · have := hx 0 e rfl hd
      simp only [Nat.add_zero] at this
      rw [this]
      cases Y i with
      | true => exact upm_same _ h
      | false => exact h
    · have h1 : ∀ b, sel b (upm m e.up) m id = m id := fun b => by cases b <;> first | rfl | exact upm_other _ hd
      have h2 : ∀ b, sel b (upm m' e.up) m' id = m' id := fun b => by cases b <;> first | rfl | exact upm_other _ hd
      rw [h1, h2]; exact h

theorem mGo_take {Y : Nat → Bool} : ∀ (es : List Eff) (k i : Nat) (m : Nat → Option O), (∀ k', i + k ≤ k' → Y k' = false) → mGo Y i (es.take k) m = mGo Y i es m
  | [], k, i, m, _ => by simp
  | e :: es, 0, i, m, h => by
    have : ∀ (es : List Eff) (i : Nat) (m : Nat → Option O), (∀ k', i ≤ k' → Y k' = false) → mGo Y i es m = m := by
      intro es
      induction es with
      | nil => intro i m _; rfl
      | cons e es ih =>
        intro i m h
        unfold mGo
        rw [h i (Nat.le_refl _)]
        exact ih (i + 1) m fun k' hk => h k' (by omega)
    rw [this (e :: es) i m (by simpa using h)]
    rfl
  | e :: es, k + 1, i, m, h => by
    simp only [List.take_succ_cons, mGo]
    exact mGo_take es k (i + 1) _ fun k' hk => h k' (by omega)

theorem mGo_put {X : Nat → Bool} {a : List (Nat × O)} : ∀ (es : List Eff) (i : Nat) (m : Nat → Option O), (∀ k e, es[k]? = some e → X (i + k) = true → ∀ id ∈ a.map (·.1), id ∉ ids e) → mGo X i es (upm m a) = upm (mGo X i es m) a
  | [], i, m, _ => rfl
  | e :: es, i, m, h => by
    unfold mGo
    have hrest : ∀ k e', es[k]? = some e' → X (i + 1 + k) = true → ∀ id ∈ a.map (·.1), id ∉ ids e' := fun k e' hk hx => h (k + 1) e' (by simpa using hk) (by rw [show i + (k + 1) = i + 1 + k from by omega]; exact hx)
    cases hX : X i with
    | false => exact mGo_put es (i + 1) m hrest
    | true =>
      show mGo X (i + 1) es (upm (upm m a) e.up) = upm (mGo X (i + 1) es (upm m e.up)) a
      rw [upm_comm (h 0 e rfl hX)]
      exact mGo_put es (i + 1) _ hrest

def add (X : Nat → Bool) (j : Nat) : Nat → Bool := fun i => i == j || X i

theorem tGo_add {X : Nat → Bool} {j : Nat} : ∀ (l : List Oper) (es : List Eff) (k i : Nat) (t : Nat → AV) (o : Oper) (e : Eff), l[k]? = some o → es[k]? = some e → j = i + k → X j = false →
    (∀ k' o', l[k']? = some o' → i + k' ≠ j → ∀ s, o.dst = some s → o'.dst ≠ some s) → tGo (add X j) i l es t = putT (tGo X i l es t) o.dst e.v
  | [], es, k, i, t, o, e, h, _, _, _, _ => by simp at h
  | _ :: _, [], k, i, t, o, e, _, h, _, _, _ => by simp at h
  | o' :: l, e' :: es, 0, i, t, o, e, h1, h2, hj, hX, hd => by
    simp at h1 h2 hj; subst h1 h2 hj
    unfold tGo
    have : add X j j = true := by simp [add]
    rw [this, hX]
    show tGo (add X j) (j + 1) l es (putT t o'.dst e'.v) = putT (tGo X (j + 1) l es t) o'.dst e'.v
    rw [← tGo_put l es (j + 1) t fun k o hk _ => hd (k + 1) o (by simpa using hk) (by omega)]
    funext s
    refine tGo_at l es (j + 1) _ _ rfl fun k o hk hs => ?_
    simp [add]; intro h; omega
  | o' :: l, e' :: es, k + 1, i, t, o, e, h1, h2, hj, hX, hd => by
    unfold tGo
    have : add X j i = X i := by simp [add]; intro h; omega
    rw [this]
    exact tGo_add l es k (i + 1) _ o e (by simpa using h1) (by simpa using h2) (by omega) hX fun k' o'' hk hne => hd (k' + 1) o'' (by simpa using hk) (by omega)

theorem mGo_add {X : Nat → Bool} {j : Nat} : ∀ (es : List Eff) (k i : Nat) (m : Nat → Option O) (e : Eff), es[k]? = some e → j = i + k → X j = false →
    (∀ k' e', es[k']? = some e' → j < i + k' → X (i + k') = true → ∀ id ∈ ids e, id ∉ ids e') → mGo (add X j) i es m = upm (mGo X i es m) e.up
  | [], k, i, m, e, h, _, _, _ => by simp at h
  | e' :: es, 0, i, m, e, h2, hj, hX, hd => by
    simp at h2 hj; subst h2 hj
    unfold mGo
    have : add X j j = true := by simp [add]
    rw [this, hX]
    show mGo (add X j) (j + 1) es (upm m e'.up) = upm (mGo X (j + 1) es m) e'.up
    rw [← mGo_put es (j + 1) m fun k o hk hx => hd (k + 1) o (by simpa using hk) (by omega) (by rw [show j + (k + 1) = j + 1 + k from by omega]; exact hx)]
    funext s
    refine mGo_at es (j + 1) _ _ rfl fun k o hk hs => ?_
    simp [add]; intro h; omega
  | e' :: es, k + 1, i, m, e, h2, hj, hX, hd => by
    unfold mGo
    have : add X j i = X i := by simp [add]; intro h; omega
    rw [this]
    exact mGo_add es k (i + 1) _ e (by simpa using h2) (by omega) hX fun k' o'' hk hne hx => hd (k' + 1) o'' (by simpa using hk) (by omega) (by rw [show i + (k' + 1) = i + 1 + k' from by omega]; exact hx)

end Go.Am

/-! The abstract machine, part 25: regions that draw their order, closed. -/
namespace Go.Am
open Go

def zAll (f : Nat → Oper → Eff → Bool) : Nat → List Oper → List Eff → Bool
  | i, o :: l, e :: es => f i o e && zAll f (i + 1) l es
  | _, [], [] => true
  | _, [], _ :: _ => false
  | _, _ :: _, [] => false

theorem zAll_at {f : Nat → Oper → Eff → Bool} : ∀ {l : List Oper} {es : List Eff} {i : Nat}, zAll f i l es = true → l.length = es.length ∧ ∀ k o e, l[k]? = some o → es[k]? = some e → f (i + k) o e = true
  | [], [], i, _ => ⟨rfl, fun k o e h => by simp at h⟩
  | [], _ :: _, i, h => by cases h
  | _ :: _, [], i, h => by cases h
  | o :: l, e :: es, i, h => by
    simp only [zAll, Bool.and_eq_true] at h
    obtain ⟨h1, h2⟩ := zAll_at h.2
    refine ⟨by simp [h1], fun k o' e' hk he => ?_⟩
    cases k with
    | zero => simp at hk he; subst hk he; exact h.1
    | succ k => have := h2 k o' e' (by simpa using hk) (by simpa using he); rwa [show i + 1 + k = i + (k + 1) from by omega] at this

def guardOk (l : List Oper) (o : Oper) : Bool :=
  match o.guard with
  | none => true
  | some (g, _) => (ddeps l o).contains g && (match l[g]? with | some og => og.dst.isSome | none => false)

def slotOk (l : List Oper) (o : Oper) (j i : Nat) (o' : Oper) : Operand → Bool
  | .tmp s => !(o'.dst == some s) || (ddeps l o).contains i || (ddeps l o').contains j
  | _ => true

def pairOk (l : List Oper) (t : Nat → AV) (es : List Eff) (ep : Nat) (m : Nat → Option O) (j : Nat) (o : Oper) (e : Eff) (i : Nat) (o' : Oper) (e' : Eff) : Bool :=
  i == j || ((opIn o.op).all (slotOk l o j i o') && (o'.dst == none || !(o'.dst == o.dst)) &&
    (ids e').all fun id => (!ownId ep o id || (ddeps l o').contains j) && sel (Nat.blt i j) ((ddeps l o).contains i || !(ids e).contains id) ((mSee l (evT (tSee l o (es.take j) t)) ep o (es.take j) m id).isNone || (ddeps l o').contains j))

def drawChk (l : List Oper) (t : Nat → AV) (es : List Eff) (ep n : Nat) (m : Nat → Option O) : Bool :=
  zAll (fun j o e => (ddeps l o).all (fun i => Nat.blt i j) && dstOk o.dst n && guardOk l o && zAll (pairOk l t es ep m j o e) 0 l es) 0 l es

def cnt (X : Nat → Bool) : Nat → Nat
  | 0 => 0
  | n + 1 => cnt X n + sel (X n) 0 1

theorem cnt_add {X : Nat → Bool} {j : Nat} (hX : X j = false) : ∀ n, cnt (add X j) n + sel (Nat.blt j n) 1 0 = cnt X n
  | 0 => by
    have : Nat.blt j 0 = false := by cases h : Nat.blt j 0 <;> first | rfl | (have := Nat.le_of_ble_eq_true h; omega)
    simp [cnt, this, sel]
  | n + 1 => by
    have ih := cnt_add hX n
    simp only [cnt]
    by_cases h : n = j
    · subst h
      have h1 : Nat.blt n n = false := by cases h : Nat.blt n n <;> first | rfl | (have := Nat.le_of_ble_eq_true h; omega)
      have h2 : Nat.blt n (n + 1) = true := Nat.ble_eq_true_of_le (Nat.le_refl _)
      have h3 : add X n n = true := by simp [add]
      rw [h1] at ih
      rw [h2, h3, hX]
      simp only [sel] at ih ⊢
      omega
    · have h3 : add X j n = X n := by simp [add]; intro h'; omega
      have h4 : Nat.blt j (n + 1) = Nat.blt j n := by
        cases h5 : Nat.blt j n with
        | true => exact Nat.ble_eq_true_of_le (by have := Nat.le_of_ble_eq_true h5; omega)
        | false =>
          cases h6 : Nat.blt j (n + 1) with
          | false => rfl
          | true =>
            have := Nat.le_of_ble_eq_true h6
            have : Nat.blt j n = true := Nat.ble_eq_true_of_le (by omega)
            rw [this] at h5; cases h5
      rw [h3, h4]
      omega

theorem cnt_zero {X : Nat → Bool} : ∀ {n : Nat}, cnt X n = 0 → ∀ i, i < n → X i = true
  | 0, _, i, h => by omega
  | n + 1, h, i, hi => by
    simp only [cnt] at h
    by_cases e : i = n
    · subst e
      cases hx : X i with
      | true => rfl
      | false => rw [hx] at h; simp [sel] at h
    · exact cnt_zero (n := n) (by omega) i (by omega)

section
variable {P : Program} {T : TypeId → Option TI} (hT : TOk P T) {w0 : World} {A : Nat → Prop} {locs : List (Option Loc)}
variable {l : List Oper} {es : List Eff} {t : Nat → AV} {m : Nat → Option O} {ep n : Nat} {pm : List Nat}

/-- The state behind the operations of X. -/
def stX (l : List Oper) (es : List Eff) (t : Nat → AV) (m : Nat → Option O) (ep n : Nat) (pm : List Nat) (X : Nat → Bool) : S := ⟨tGo X 0 l es t, mGo X 0 es m, ep, n, pm⟩

theorem stX_all {X Y : Nat → Bool} (hlen : l.length = es.length) (h : ∀ i, i < l.length → X i = Y i) : stX l es t m ep n pm X = stX l es t m ep n pm Y := by
  have h1 : tGo X 0 l es t = tGo Y 0 l es t := by
    funext s
    refine tGo_at l es 0 t t rfl fun k o hk _ => ?_
    rw [Nat.zero_add]
    exact h k (List.getElem?_eq_some_iff.1 hk).1
  have h2 : mGo X 0 es m = mGo Y 0 es m := by
    funext s
    refine mGo_at es 0 m m rfl fun k o hk _ => ?_
    rw [Nat.zero_add]
    exact h k (by rw [hlen]; exact (List.getElem?_eq_some_iff.1 hk).1)
  unfold stX
  rw [h1, h2]

include hT in
theorem draw_op (hc : drawChk l t es ep n m = true) {j : Nat} {o : Oper} {e : Eff} (ho : l[j]? = some o) (he : es[j]? = some e) (hcame : Came P T l t m ep es j o e)
    {X : Nat → Bool} (hXj : X j = false) (hdep : ∀ i ∈ ddeps l o, X i = true) (hcl : ∀ (i : Nat) (o' : Oper), l[i]? = some o' → X i = true → ∀ i' ∈ ddeps l o', X i' = true)
    {β : Nat → Option Loc} {a : Act} {w : World} (h : Sim w0 A locs β (stX l es t m ep n pm X) a w) {Q : Exit → Act → World → Prop} {K : Act → World → Prop}
    (hK : ∀ β' a' w', Sim w0 A locs β' (stX l es t m ep n pm (add X j)) a' w' → K a' w') : wpOp P ⟨l⟩ Q j K a w := by
  obtain ⟨hlen, hat⟩ := zAll_at hc
  have hj := hat j o e ho he
  simp only [Bool.and_eq_true, Nat.zero_add] at hj
  obtain ⟨⟨⟨hlow, hdst⟩, hguard⟩, hpairs⟩ := hj
  have hpair : ∀ (i : Nat) (o' : Oper) (e' : Eff), l[i]? = some o' → es[i]? = some e' → i ≠ j →
      (∀ x ∈ opIn o.op, slotOk l o j i o' x = true) ∧ (o'.dst = none ∨ o'.dst ≠ o.dst) ∧
      ∀ id ∈ ids e', (ownId ep o id = false ∨ j ∈ ddeps l o') ∧ (i < j → i ∈ ddeps l o ∨ id ∉ ids e) ∧ (j < i → mSee l (evT (tSee l o (es.take j) t)) ep o (es.take j) m id = none ∨ j ∈ ddeps l o') := by
    intro i o' e' hi he' hne
    have := (zAll_at hpairs).2 i o' e' hi he'
    simp only [Nat.zero_add, pairOk, Bool.or_eq_true, beq_iff_eq, hne, false_or, Bool.and_eq_true, List.all_eq_true, Bool.not_eq_true'] at this
    obtain ⟨⟨q1, q2⟩, q3⟩ := this
    refine ⟨q1, ?_, fun id hid => ?_⟩
    · rcases q2 with q2 | q2
      · exact .inl q2
      · exact .inr (by simpa using q2)
    · obtain ⟨r1, r2⟩ := q3 id hid
      refine ⟨by simpa only [Bool.or_eq_true, Bool.not_eq_true', List.contains_eq_mem, decide_eq_true_eq] using r1, fun hlt => ?_, fun hlt => ?_⟩
      · rw [show Nat.blt i j = true from Nat.ble_eq_true_of_le hlt] at r2
        simp only [sel, Bool.or_eq_true, Bool.not_eq_true', List.contains_eq_mem, decide_eq_true_eq, decide_eq_false_iff_not] at r2
        exact r2
      · have hb : Nat.blt i j = false := by cases hx : Nat.blt i j <;> first | rfl | (have := Nat.le_of_ble_eq_true hx; omega)
        rw [hb] at r2
        simp only [sel, Bool.or_eq_true, Option.isNone_iff_eq_none, List.contains_eq_mem, decide_eq_true_eq] at r2
        exact r2
  have hlow' : ∀ i ∈ ddeps l o, i < j := fun i hi => Nat.le_of_ble_eq_true ((List.all_eq_true.1 hlow) i hi)
  have hesat : ∀ (i : Nat) (o' : Oper), l[i]? = some o' → ∃ e', es[i]? = some e' := fun i o' hi => by
    have : i < es.length := by rw [← hlen]; exact (List.getElem?_eq_some_iff.1 hi).1
    exact ⟨_, List.getElem?_eq_getElem this⟩
  have hlat : ∀ (i : Nat) (e' : Eff), es[i]? = some e' → ∃ o', l[i]? = some o' := fun i o' hi => by
    have : i < l.length := by rw [hlen]; exact (List.getElem?_eq_some_iff.1 hi).1
    exact ⟨_, List.getElem?_eq_getElem this⟩
  have hDfalse : ∀ k', j ≤ k' → (ddeps l o).contains k' = false := fun k' hk => by
    simp only [List.contains_eq_mem, decide_eq_false_iff_not]
    intro hm
    have := hlow' k' hm
    omega
  -- the slots that it reads
  have hslot : ∀ s, (∀ (i : Nat) (o' : Oper), l[i]? = some o' → o'.dst = some s → i ≠ j → i ∈ ddeps l o ∨ j ∈ ddeps l o') → tSee l o (es.take j) t s = tGo X 0 l es t s := by
    intro s hs
    unfold tSee
    rw [tGo_take l es j 0 t (fun k' hk => hDfalse k' (by omega))]
    refine tGo_at l es 0 t t rfl fun k o' hk hd => ?_
    rw [Nat.zero_add]
    by_cases hkj : k = j
    · subst hkj
      rw [hDfalse k (Nat.le_refl _), hXj]
    · rcases hs k o' hk hd hkj with h1 | h1
      · rw [hdep k h1]; simpa using h1
      · have hXk : X k = false := by
          cases hx : X k with
          | false => rfl
          | true => have := hcl k o' hk hx j h1; rw [hXj] at this; cases this
        rw [hXk]
        simp only [List.contains_eq_mem, decide_eq_false_iff_not]
        intro hm
        have := hdep k hm
        rw [hXk] at this; cases this
  have hrho : ∀ x ∈ opIn o.op, evT (tSee l o (es.take j) t) x = (stX l es t m ep n pm X).ev x := by
    intro x hx
    rw [ev_eq]
    cases x with
    | tmp s =>
      show tSee l o (es.take j) t s = tGo X 0 l es t s
      refine hslot s fun i o' hi hd hne => ?_
      obtain ⟨e', he'⟩ := hesat i o' hi
      have := (hpair i o' e' hi he' hne).1 _ hx
      simp only [slotOk, hd, beq_self_eq_true, Bool.not_true, Bool.false_or, Bool.or_eq_true, List.contains_eq_mem, decide_eq_true_eq] at this
      exact this
    | _ => rfl
  -- the objects that it looks at
  have hmsee : ∀ id ob, mSee l (evT (tSee l o (es.take j) t)) ep o (es.take j) m id = some ob → mGo X 0 es m id = some ob := by
    intro id ob hob
    have hob0 := hob
    unfold mSee at hob
    cases hs : (!(hides (refsOf (evT (tSee l o (es.take j) t)) (opIn o.op)) o.op id && !ownId ep o id) && touchOk (ddeps l o) 0 (es.take j) id) with
    | false => rw [hs] at hob; cases hob
    | true =>
      rw [hs] at hob
      simp only [sel] at hob
      rw [mGo_take es j 0 m (fun k' hk => hDfalse k' (by omega))] at hob
      rw [← hob]
      refine mGo_at es 0 m m rfl fun k e' hk hid => ?_
      rw [Nat.zero_add]
      have htouch : ∀ (D : List Nat) (es : List Eff) (i : Nat), touchOk D i es id = true → ∀ (k : Nat) (e' : Eff), es[k]? = some e' → id ∈ ids e' → i + k ∈ D := by
        intro D es
        induction es with
        | nil => intro i _ k e' hk; simp at hk
        | cons e0 es ih =>
          intro i ht k e' hk hid
          simp only [touchOk, Bool.and_eq_true, Bool.or_eq_true, Bool.not_eq_true', List.contains_eq_mem, decide_eq_true_eq, decide_eq_false_iff_not] at ht
          cases k with
          | zero =>
            simp at hk; subst hk
            rcases ht.1 with h1 | h1
            · exact h1
            · exact absurd hid h1
          | succ k =>
            have := ih (i + 1) ht.2 k e' (by simpa using hk) hid
            rwa [show i + 1 + k = i + (k + 1) from by omega] at this
      simp only [Bool.and_eq_true] at hs
      by_cases hkj : k < j
      · have := htouch (ddeps l o) (es.take j) 0 hs.2 k e' (by rw [List.getElem?_take, if_pos hkj]; exact hk) hid
        rw [Nat.zero_add] at this
        rw [hdep k this]
        simpa using this
      · rw [hDfalse k (by omega)]
        by_cases hkj' : k = j
        · subst hkj'; exact hXj
        · obtain ⟨o', ho'⟩ := hlat k e' hk
          have := ((hpair k o' e' ho' hk hkj').2.2 id hid).2.2 (by omega)
          rcases this with h1 | h1
          · rw [hob0] at h1; cases h1
          · cases hx : X k with
            | false => rfl
            | true => have := hcl k o' ho' hx j h1; rw [hXj] at this; cases this
  have hfresh : ∀ id, ownId ep o id = true → mSee l (evT (tSee l o (es.take j) t)) ep o (es.take j) m id = none → mGo X 0 es m id = none := by
    intro id hown hnone
    have hlate : ∀ (k : Nat) (e' : Eff), es[k]? = some e' → k ≠ j → id ∈ ids e' → j < k ∧ X k = false := fun k e' hk hne hid => by
      obtain ⟨o', ho'⟩ := hlat k e' hk
      rcases ((hpair k o' e' ho' hk hne).2.2 id hid).1 with h1 | h1
      · rw [hown] at h1; cases h1
      · refine ⟨?_, ?_⟩
        · have hk' := hat k o' e' ho' hk
          simp only [Bool.and_eq_true, Nat.zero_add] at hk'
          exact Nat.le_of_ble_eq_true ((List.all_eq_true.1 hk'.1.1.1) j h1)
        · cases hx : X k with
          | false => rfl
          | true => have := hcl k o' ho' hx j h1; rw [hXj] at this; cases this
    have hnot : ∀ (k : Nat) (e' : Eff), es[k]? = some e' → k < j → id ∉ ids e' := fun k e' hk hlt hid => by
      have := (hlate k e' hk (by omega) hid).1
      omega
    have htouch : ∀ (D : List Nat) (es' : List Eff) (i : Nat), (∀ (k : Nat) (e' : Eff), es'[k]? = some e' → id ∉ ids e') → touchOk D i es' id = true := by
      intro D es'
      induction es' with
      | nil => intro i _; rfl
      | cons e0 es' ih =>
        intro i hn
        simp only [touchOk, Bool.and_eq_true, Bool.or_eq_true, Bool.not_eq_true', List.contains_eq_mem, decide_eq_false_iff_not]
        exact ⟨.inr (hn 0 e0 rfl), ih (i + 1) fun k e' hk => hn (k + 1) e' (by simpa using hk)⟩
    unfold mSee at hnone
    rw [htouch _ _ _ (fun k e' hk => by
      rw [List.getElem?_take] at hk
      split at hk
      · rename_i hlt; exact hnot k e' hk hlt
      · cases hk), hown] at hnone
    simp only [Bool.not_true, Bool.and_false, Bool.not_false, Bool.and_self, sel] at hnone
    rw [mGo_take es j 0 m (fun k' hk => hDfalse k' (by omega))] at hnone
    rw [← hnone]
    refine mGo_at es 0 m m rfl fun k e' hk hid => ?_
    rw [Nat.zero_add]
    by_cases hkj : k = j
    · subst hkj; rw [hXj, hDfalse k (Nat.le_refl _)]
    · obtain ⟨h1, h2⟩ := hlate k e' hk hkj hid
      rw [h2, hDfalse k (by omega)]
  have hown : ∀ jj, ownId ep o (rid ep (o.dst.getD 0) jj) = true := fun jj => by simp [ownId, rid, Nat.add_mul_mod_self_right]
  -- the state behind it
  have happ : (stX l es t m ep n pm X).app o.dst e = stX l es t m ep n pm (add X j) := by
    rw [app_eq]
    unfold stX
    have h1 := tGo_add (X := X) (j := j) l es j 0 t o e ho he (by omega) hXj (fun k' o' hk hne s hs hs' => by
      obtain ⟨e', he'⟩ := hesat k' o' hk
      rcases (hpair k' o' e' hk he' (by omega)).2.1 with h1 | h1
      · rw [h1] at hs'; cases hs'
      · exact h1 (hs'.trans hs.symm))
    have h2 := mGo_add (X := X) (j := j) es j 0 m e he (by omega) hXj (fun k' e' hk hlt hx id hid hid' => by
      rw [Nat.zero_add] at hlt hx
      obtain ⟨o', ho'⟩ := hlat k' e' hk
      -- the later one is behind this one, or shares nothing
      have hk'all := hat k' o' e' ho' hk
      simp only [Bool.and_eq_true, Nat.zero_add] at hk'all
      have := (zAll_at hk'all.2).2 j o e ho he
      simp only [Nat.zero_add, pairOk, Bool.or_eq_true, beq_iff_eq, show j ≠ k' from by omega, false_or, Bool.and_eq_true, List.all_eq_true, Bool.not_eq_true'] at this
      obtain ⟨_, r2⟩ := this.2 id hid
      rw [show Nat.blt j k' = true from Nat.ble_eq_true_of_le hlt] at r2
      simp only [sel, Bool.or_eq_true, Bool.not_eq_true', List.contains_eq_mem, decide_eq_true_eq, decide_eq_false_iff_not] at r2
      rcases r2 with r2 | r2
      · have := hcl k' o' ho' hx j r2
        rw [hXj] at this; cases this
      · exact r2 hid')
    rw [h1, h2]
  have hdd : ∀ d, o.dst = some d → d < n := fun d hd => by rw [hd] at hdst; exact Nat.le_of_ble_eq_true hdst
  -- the guard
  have hgv : ∀ g want, o.guard = some (g, want) → ∃ s, gslot ⟨l⟩ g = some s ∧ tGo X 0 l es t s = (es.getD g ⟨.dead, []⟩).v := by
    intro g want hg
    unfold guardOk at hguard
    simp only [hg, Bool.and_eq_true, List.contains_eq_mem, decide_eq_true_eq] at hguard
    obtain ⟨h1, h2⟩ := hguard
    cases hlg : l[g]? with
    | none => rw [hlg] at h2; cases h2
    | some og =>
      rw [hlg] at h2
      obtain ⟨s, hs⟩ := Option.isSome_iff_exists.1 h2
      obtain ⟨eg, heg⟩ := hesat g og hlg
      refine ⟨s, by simp [gslot, hlg, hs], ?_⟩
      have hXg := hdep g h1
      -- its slot is written by it alone
      have hsing : tGo X 0 l es t s = tGo (add (fun _ => false) g) 0 l es t s := by
        refine tGo_at l es 0 t t rfl fun k o' hk hd => ?_
        rw [Nat.zero_add]
        by_cases hkg : k = g
        · subst hkg; rw [hXg]; simp [add]
        · obtain ⟨e', he'⟩ := hesat k o' hk
          have hgall := hat g og eg hlg heg
          simp only [Bool.and_eq_true, Nat.zero_add] at hgall
          have := (zAll_at hgall.2).2 k o' e' hk he'
          simp only [Nat.zero_add, pairOk, Bool.or_eq_true, beq_iff_eq, hkg, false_or, Bool.and_eq_true, List.all_eq_true, Bool.not_eq_true'] at this
          rcases this.1.2 with h3 | h3
          · rw [hd] at h3; cases h3
          · rw [hd, hs] at h3; simp at h3
      have hfalse : ∀ (l : List Oper) (es : List Eff) (i : Nat) (t : Nat → AV), tGo (fun _ => false) i l es t = t := by
        intro l
        induction l with
        | nil => intro es i t; cases es <;> rfl
        | cons o l ih =>
          intro es i t
          cases es with
          | nil => rfl
          | cons e es => exact ih es (i + 1) t
      rw [hsing, tGo_add l es g 0 t og eg hlg heg (by omega) rfl (fun k' o' hk hne s' hs1 hs2 => by
          obtain ⟨e', he'⟩ := hesat k' o' hk
          have hgall := hat g og eg hlg heg
          simp only [Bool.and_eq_true, Nat.zero_add] at hgall
          have := (zAll_at hgall.2).2 k' o' e' hk he'
          simp only [Nat.zero_add, pairOk, Bool.or_eq_true, beq_iff_eq, show k' ≠ g from by omega, false_or, Bool.and_eq_true, List.all_eq_true, Bool.not_eq_true'] at this
          rcases this.1.2 with h3 | h3
          · rw [hs2] at h3; cases h3
          · rw [hs2, hs1] at h3; simp at h3), hfalse, hs]
      show upd t s eg.v s = _
      rw [upd_same]
      simp [List.getD, heg]
  -- the step
  unfold wpOp
  have hat0 : (⟨l⟩ : Array Oper)[j]? = some o := by simpa using ho
  rw [hat0]
  simp only
  have hrun : amOpX P T (evT (tSee l o (es.take j) t)) (mSee l (evT (tSee l o (es.take j) t)) ep o (es.take j) m) ep o (fun e' => e' = e) → o.wp P a w K Q := fun hk => by
    have hk' := amOpX_congr hrho hk
    refine good_opX hT h (o := o) hdd (m' := mSee l (evT (tSee l o (es.take j) t)) ep o (es.take j) m) hmsee (fun d hd jj hn => ?_) (fun jj hd hn => ?_) hk' _ _ ?_
    · exact hfresh _ (by have := hown jj; rw [hd] at this; exact this) hn
    · exact hfresh _ (by have := hown jj; rw [hd] at this; exact this) hn
    · intro e' he' β' a' w' hs
      subst he'
      rw [happ] at hs
      exact hK β' a' w' hs
  rcases hcame with ⟨hg, hk⟩ | ⟨g, want, hg, hv, rfl⟩
  · rcases hg with hg | ⟨g, want, hg, hv⟩
    · rw [if_pos (by simp [Region.wanted, hg])]
      exact .inl (hrun hk)
    · obtain ⟨s, hs1, hs2⟩ := hgv g want hg
      have hsl := h.slot s
      have e0 : (stX l es t m ep n pm X).t s = .imm (.bool want) := hs2.trans hv
      rw [e0] at hsl
      have hy := yielded_of hs1 (rep_bool hsl)
      rw [if_pos (by simp [Region.wanted, hg, hy])]
      exact .inl (hrun hk)
  · obtain ⟨s, hs1, hs2⟩ := hgv g want hg
    have hsl := h.slot s
    have hskip : K (a.put o.dst Go.undef) w := by
      refine hK β _ w ?_
      rw [← happ]
      have hp := h.put (dst := o.dst) (av := .undef) (v := Go.undef) hdd rfl
      rw [S.app_nil]
      exact hp
    rcases hv with hv | hv
    · have e0 : (stX l es t m ep n pm X).t s = .imm (.bool (!want)) := hs2.trans hv
      rw [e0] at hsl
      have hy := yielded_of hs1 (rep_bool hsl)
      rw [if_neg (by simp [Region.wanted, hg, hy])]
      exact hskip
    · have e0 : (stX l es t m ep n pm X).t s = .undef := hs2.trans hv
      rw [e0] at hsl
      have hy := yielded_undef hs1 hsl
      rw [if_neg (by simp [Region.wanted, hg, hy])]
      exact hskip

include hT in
theorem draw_walk (hc : drawChk l t es ep n m = true) (hcame : ∀ (j : Nat) (o : Oper) (e : Eff), l[j]? = some o → es[j]? = some e → Came P T l t m ep es j o e) {Q : Exit → Act → World → Prop}
    (hQ : ∀ β a w, Sim w0 A locs β (stX l es t m ep n pm fun _ => true) a w → Q .normal a w) : ∀ (fuel : Nat) (listed : Array Bool) (X : Nat → Bool) (β : Nat → Option Loc) (a : Act) (w : World),
    (∀ i, i < l.length → listed.getD i true = X i) → listed.size = l.length → (∀ (i : Nat) (o' : Oper), l[i]? = some o' → X i = true → ∀ i' ∈ ddeps l o', X i' = true) → cnt X l.length ≤ fuel →
    Sim w0 A locs β (stX l es t m ep n pm X) a w → wpAny P .any ⟨l⟩ Q fuel listed a w := by
  obtain ⟨hlen, hat⟩ := zAll_at hc
  have hlow : ∀ (j : Nat) (o : Oper), l[j]? = some o → ∀ i ∈ ddeps l o, i < j := fun j o ho i hi => by
    have hlt : j < es.length := by rw [← hlen]; exact (List.getElem?_eq_some_iff.1 ho).1
    have := hat j o _ ho (List.getElem?_eq_getElem hlt)
    simp only [Bool.and_eq_true, Nat.zero_add] at this
    exact Nat.le_of_ble_eq_true ((List.all_eq_true.1 this.1.1.1) i hi)
  have hdir : ∀ (o : Oper) i, i ∈ ddir o → i ∈ ddeps l o := fun o i h => cloD_le l _ _ i h
  have hready : ∀ (listed : Array Bool) (X : Nat → Bool), (∀ i, i < l.length → listed.getD i true = X i) → listed.size = l.length → (∀ (i : Nat) (o' : Oper), l[i]? = some o' → X i = true → ∀ i' ∈ ddeps l o', X i' = true) → ∀ (i : Nat) (o : Oper), l[i]? = some o →
      (i ∈ Region.ready .any ⟨l⟩ listed ↔ X i = false ∧ ∀ i' ∈ ddeps l o, X i' = true) := by
    intro listed X hl hs hcl i o ho
    have hi : i < l.length := (List.getElem?_eq_some_iff.1 ho).1
    have hat0 : (⟨l⟩ : Array Oper)[i]? = some o := by simpa using ho
    unfold Region.ready
    simp only [List.mem_filter, List.mem_range, hat0, Option.map_some, Option.getD_some, Bool.and_eq_true, Bool.not_eq_true', hl i hi]
    have hlt : ∀ i', i' < l.length → listed.getD i' false = X i' := fun i' hi' => by
      rw [← hl i' hi']
      simp [Array.getD, hs, hi']
    constructor
    · rintro ⟨_, h1, h2⟩
      refine ⟨h1, fun i' hi' => cloD_in l (fun i o ho hx k hk => hcl i o ho hx k (hdir o k hk)) _ _ (fun i' hi' => ?_) i' hi'⟩
      unfold ddir at hi'
      obtain ⟨ed, hed, rfl⟩ := List.mem_map.1 hi'
      obtain ⟨hm1, hm2⟩ := List.mem_filter.1 hed
      have := (Array.all_eq_true_iff_forall_mem.1 h2) ed (by simpa using hm1)
      simp only [Bool.or_eq_true, Bool.not_eq_true', hm2, Bool.true_eq_false, false_or] at this
      rw [hlt ed.on (by have := hlow i o ho ed.on (hdir o _ hi'); omega)] at this
      exact this
    · rintro ⟨h1, h2⟩
      refine ⟨hi, h1, Array.all_eq_true_iff_forall_mem.2 fun ed hed => ?_⟩
      cases hb : Region.binds .any ed with
      | false => rfl
      | true =>
        have hm : ed.on ∈ ddeps l o := hdir o _ <| List.mem_map.2 ⟨ed, List.mem_filter.2 ⟨by simpa using hed, hb⟩, rfl⟩
        rw [hlt ed.on (by have := hlow i o ho _ hm; omega), h2 _ hm]
        rfl
  have hdone : ∀ (listed : Array Bool) (X : Nat → Bool), (∀ i, i < l.length → listed.getD i true = X i) → listed.size = l.length → (∀ (i : Nat) (o' : Oper), l[i]? = some o' → X i = true → ∀ i' ∈ ddeps l o', X i' = true) → Region.ready .any ⟨l⟩ listed = [] → ∀ i, i < l.length → X i = true := by
    intro listed X hl hs hcl hr i
    induction i using Nat.strongRecOn with
    | ind i ih =>
      intro hi
      cases hx : X i with
      | true => rfl
      | false =>
        have ho := List.getElem?_eq_getElem hi
        have := (hready listed X hl hs hcl i _ ho).2 ⟨hx, fun i' hi' => by
          have := hlow i _ ho i' hi'
          exact ih i' this (by omega)⟩
        rw [hr] at this
        cases this
  have hfin : ∀ (X : Nat → Bool) β a w, (∀ i, i < l.length → X i = true) → Sim w0 A locs β (stX l es t m ep n pm X) a w → Q .normal a w := fun X β a w hX h => by
    rw [stX_all (Y := fun _ => true) hlen hX] at h
    exact hQ β a w h
  intro fuel
  induction fuel with
  | zero =>
    intro listed X β a w hl hs hcl hcnt h
    have hX := cnt_zero (Nat.le_zero.1 hcnt)
    refine ⟨?_, hfin X β a w hX h⟩
    refine List.eq_nil_iff_forall_not_mem.2 fun i hi => ?_
    have hi' : i < l.length := by
      unfold Region.ready at hi
      have := (List.mem_filter.1 hi).1
      simpa using this
    have := ((hready listed X hl hs hcl i _ (List.getElem?_eq_getElem hi')).1 hi).1
    rw [hX i hi'] at this; cases this
  | succ fuel ih =>
    intro listed X β a w hl hs hcl hcnt h
    refine ⟨fun hr => hfin X β a w (hdone listed X hl hs hcl hr) h, fun i hi => ?_⟩
    have hi' : i < l.length := by
      unfold Region.ready at hi
      have := (List.mem_filter.1 hi).1
      simpa using this
    have ho := List.getElem?_eq_getElem hi'
    have he := List.getElem?_eq_getElem (l := es) (i := i) (by omega)
    obtain ⟨hXi, hdep⟩ := (hready listed X hl hs hcl i _ ho).1 hi
    refine draw_op hT hc ho he (hcame i _ _ ho he) hXi hdep hcl h fun β' a' w' h' => ?_
    refine ih _ (add X i) β' a' w' (fun k hk => ?_) (by simpa using hs) (fun k o' hk hx i' hi2 => ?_) ?_ h'
    · by_cases e : k = i
      · subst e; simp [add, Array.getD, hs, hk]
      · have := hl k hk
        simp only [add, beq_eq_false_iff_ne.2 e, Bool.false_or]
        rw [← this]
        simp only [Array.getD_eq_getD_getElem?, Array.getElem?_setIfInBounds]
        rw [if_neg (fun h => e h.symm)]
    · simp only [add, Bool.or_eq_true, beq_iff_eq] at hx ⊢
      rcases hx with hx | hx
      · subst hx
        rw [ho] at hk; injection hk with hk; subst hk
        exact .inr (hdep i' hi2)
      · exact .inr (hcl k o' hk hx i' hi2)
    · have := cnt_add hXi l.length
      rw [show Nat.blt i l.length = true from Nat.ble_eq_true_of_le hi'] at this
      simp only [sel] at this
      omega

/-- What is asked behind a region that draws its order. -/
def drawnQ (l : List Oper) (t : Nat → AV) (m : Nat → Option O) (ep n : Nat) (pm : List Nat) (Q : S → Prop) (es : List Eff) : Prop :=
  drawChk l t es ep n m = true ∧ Q (stX l es t m ep n pm fun _ => true)

end

section
variable {P : Program} {T : TypeId → Option TI} (hT : TOk P T) {w0 : World} {A : Nat → Prop} {locs : List (Option Loc)}

include hT in
theorem draw_sound (hm : P.follows .mixedOrders = true) {id : Nat} {l : List Oper} {σ : S} {Q : Exit → Act → World → Prop} {k : S → Prop} (h : amDraw P T l σ.t σ.m σ.ep (drawnQ l σ.t σ.m σ.ep σ.n σ.pm k) l [])
    {β : Nat → Option Loc} {a : Act} {w : World} (hs : Sim w0 A locs β σ a w) (hQ : ∀ σ' β' a' w', k σ' → Sim w0 A locs β' σ' a' w' → Q .normal a' w') : (Code.region id ⟨l⟩ true).wp P Q a w := by
  obtain ⟨es, h1, h2, h3⟩ := amDraw_out l [] h
  simp only [List.nil_append, List.length_nil, Nat.zero_add] at h1 h3
  obtain ⟨hc, hk⟩ := h1
  refine wp_region_any hm ?_
  have hX : stX l es σ.t σ.m σ.ep σ.n σ.pm (fun _ => false) = σ := by
    have h1 : ∀ (l : List Oper) (es : List Eff) (i : Nat) (t : Nat → AV), tGo (fun _ => false) i l es t = t := by
      intro l
      induction l with
      | nil => intro es i t; cases es <;> rfl
      | cons o l ih =>
        intro es i t
        cases es with
        | nil => rfl
        | cons e es => exact ih es (i + 1) t
    have h2 : ∀ (es : List Eff) (i : Nat) (m : Nat → Option O), mGo (fun _ => false) i es m = m := by
      intro es
      induction es with
      | nil => intro i m; rfl
      | cons e es ih => intro i m; exact ih (i + 1) m
    unfold stX
    rw [h1, h2]
  have hs' : Sim w0 A locs β (stX l es σ.t σ.m σ.ep σ.n σ.pm fun _ => false) a { w with drawn := w.drawn + 1 } := by
    rw [hX]
    have kk : Keeps w (Bl A β σ.m) { w with drawn := w.drawn + 1 } (Bl A β σ.m) := Keeps.heap rfl
    exact { size := hs.size, defers := hs.defers, slot := fun i => (hs.slot i).keep kk (Goes.refl _ _), ob := fun id o ho => (hs.ob id o ho).keep kk (Goes.refl _ _) rfl (fun _ _ _ _ => rfl), inj := hs.inj, new := hs.new, fr := ⟨hs.fr.os, hs.fr.tape, hs.fr.output, hs.fr.size, hs.fr.blk, hs.fr.tb, Nat.le_succ_of_le hs.fr.drawn⟩, lt := hs.lt, pm := hs.pm }
  refine draw_walk hT hc h3 (fun β' a' w' h' => hQ _ β' a' w' hk h') l.length _ (fun _ => false) β a _ (fun i hi => by simp [Array.getD, hi]) (by simp) (fun _ _ _ h => by cases h) ?_ hs'
  have : ∀ n, cnt (fun _ => false) n ≤ n := fun n => by
    induction n with
    | zero => exact Nat.le_refl _
    | succ n ih => simp only [cnt, sel]; omega
  exact this _

end

/-! ### Operations at the end of a region that draws its order: told one by one, in every order -/

/-- What may come next. -/
def readyL (done : List Nat) : Nat → List Oper → List (Nat × Oper)
  | _, [] => []
  | i, o :: r => match !done.contains i && (ddir o).all done.contains with
    | true => (i, o) :: readyL done (i + 1) r
    | false => readyL done (i + 1) r

structure Two (a b : Prop) : Prop where
  fst : a
  snd : b

def allR (f : Nat → Oper → Prop) : List (Nat × Oper) → Prop
  | [] => True
  | (i, o) :: r => Two (f i o) (allR f r)

def amAny (P : Program) (T : TypeId → Option TI) (l : List Oper) (k : S → Prop) : Nat → List Nat → S → Prop
  | 0, done, σ => readyL done 0 l = [] ∧ k σ
  | fuel + 1, done, σ => match readyL done 0 l with
    | [] => k σ
    | (i, o) :: r => Two (amOps P T ⟨l⟩ [o] σ (amAny P T l k fuel (i :: done))) (allR (fun i o => amOps P T ⟨l⟩ [o] σ (amAny P T l k fuel (i :: done))) r)

theorem readyL_mem {done : List Nat} : ∀ (l : List Oper) (i : Nat) (j : Nat) (o : Oper), (j, o) ∈ readyL done i l ↔ ∃ k, j = i + k ∧ l[k]? = some o ∧ done.contains j = false ∧ (ddir o).all done.contains = true
  | [], i, j, o => by simp [readyL]
  | x :: r, i, j, o => by
    have ih := readyL_mem (done := done) r (i + 1) j o
    have key : (∃ k, j = i + k ∧ (x :: r)[k]? = some o ∧ done.contains j = false ∧ (ddir o).all done.contains = true) ↔ ((j = i ∧ o = x) ∧ done.contains j = false ∧ (ddir o).all done.contains = true) ∨ ∃ k, j = i + 1 + k ∧ r[k]? = some o ∧ done.contains j = false ∧ (ddir o).all done.contains = true := by
      constructor
      · rintro ⟨k, h1, h2, h3⟩
        cases k with
        | zero => simp at h2; exact .inl ⟨⟨by omega, h2.symm⟩, h3⟩
        | succ k => exact .inr ⟨k, by omega, by simpa using h2, h3⟩
      · rintro (⟨⟨h1, h2⟩, h3⟩ | ⟨k, h1, h2, h3⟩)
        · exact ⟨0, by omega, by simp [h2], h3⟩
        · exact ⟨k + 1, by omega, by simpa using h2, h3⟩
    rw [key, ← ih]
    have e0 : readyL done i (x :: r) = match !done.contains i && (ddir x).all done.contains with
      | true => (i, x) :: readyL done (i + 1) r
      | false => readyL done (i + 1) r := rfl
    rw [e0]
    split
    · rename_i hb
      simp only [Bool.and_eq_true, Bool.not_eq_true'] at hb
      constructor
      · intro h
        rcases List.mem_cons.1 h with h | h
        · injection h with h1 h2
          subst h1 h2
          exact .inl ⟨⟨rfl, rfl⟩, hb⟩
        · exact .inr h
      · rintro (⟨⟨rfl, rfl⟩, _⟩ | h)
        · exact List.mem_cons_self
        · exact List.mem_cons_of_mem _ h
    · rename_i hb
      constructor
      · exact .inr
      · rintro (⟨⟨rfl, rfl⟩, h1, h2⟩ | h)
        · rw [h1, h2] at hb; cases hb
        · exact h

theorem ready_iff {l : List Oper} {listed : Array Bool} {done : List Nat} (hl : ∀ i, listed.getD i false = done.contains i) (hs : listed.size = l.length) (i : Nat) : i ∈ Region.ready .any ⟨l⟩ listed ↔ ∃ o, (i, o) ∈ readyL done 0 l := by
  have hall : ∀ o : Oper, (o.after.all fun e => !Region.binds .any e || listed.getD e.on false) = (ddir o).all done.contains := fun o => by
    unfold ddir
    rw [Bool.eq_iff_iff, Array.all_eq_true_iff_forall_mem, List.all_eq_true]
    constructor
    · intro h j hj
      obtain ⟨e, he, rfl⟩ := List.mem_map.1 hj
      obtain ⟨h1, h2⟩ := List.mem_filter.1 he
      have := h e (by simpa using h1)
      rw [h2, hl] at this
      simpa using this
    · intro h e he
      cases hb : Region.binds .any e with
      | false => rfl
      | true =>
        have := h e.on (List.mem_map.2 ⟨e, List.mem_filter.2 ⟨by simpa using he, hb⟩, rfl⟩)
        rw [hl, this]
        rfl
  unfold Region.ready
  simp only [List.mem_filter, List.mem_range, Bool.and_eq_true, Bool.not_eq_true', readyL_mem, Nat.zero_add]
  constructor
  · rintro ⟨h1, h2, h3⟩
    have h1' : i < l.length := h1
    have ho : (⟨l⟩ : Array Oper)[i]? = some l[i] := by simp [h1']
    rw [ho] at h3
    simp only [Option.map_some, Option.getD_some, hall] at h3
    refine ⟨l[i], i, rfl, by simp [h1'], ?_, h3⟩
    rw [← hl, ← h2]
    simp [Array.getD, hs, h1']
  · rintro ⟨o, k, rfl, h2, h3, h4⟩
    have h1' : i < l.length := (List.getElem?_eq_some_iff.1 h2).1
    have ho : (⟨l⟩ : Array Oper)[i]? = some o := by simpa using h2
    refine ⟨h1', ?_, by rw [ho]; simp only [Option.map_some, Option.getD_some, hall]; exact h4⟩
    rw [← hl] at h3
    rw [← h3]
    simp [Array.getD, hs, h1']

theorem allR_mem {f : Nat → Oper → Prop} : ∀ {r : List (Nat × Oper)}, allR f r → ∀ i o, (i, o) ∈ r → f i o
  | [], _, i, o, h => by cases h
  | (j, x) :: r, h, i, o, hi => by
    obtain ⟨h1, h2⟩ := h
    rcases List.mem_cons.1 hi with e | e
    · injection e with e1 e2
      subst e1 e2
      exact h1
    · exact allR_mem h2 i o e

section
variable {P : Program} {T : TypeId → Option TI} (hT : TOk P T) {w0 w : World} {A : Nat → Prop} {locs : List (Option Loc)} {β : Nat → Option Loc} {σ : S} {a : Act}

include hT in
theorem amOps_step {ops : Array Oper} {i : Nat} {o : Oper} (ho : ops[i]? = some o) {k : S → Prop} {K : Act → World → Prop} {Q : Exit → Act → World → Prop} (hk : amOps P T ops [o] σ k) (h : Sim w0 A locs β σ a w)
    (hK : ∀ σ' β' a' w', k σ' → Sim w0 A locs β' σ' a' w' → K a' w') : wpOp P ops Q i K a w := by
  have op1 : ∀ (σ1 : S), Sim w0 A locs β σ1 a w → amOp1 P T o σ1 (fun σ' => amOps P T ops [] σ' k) → o.wp P a w K Q := by
    intro σ1 h1 h2
    obtain ⟨hd, h2⟩ := h2
    refine good_op hT h1 (fun d hdd => by rw [hdd] at hd; exact hd) (m' := σ1.m) (fun _ _ h => h) (fun _ _ _ h => h) (fun _ _ h => h) h2 _ _ ?_
    intro e hK' β' a' w' hs
    exact hK _ _ _ _ (by simpa only [amOps] using hK') hs
  have opX : ∀ (σ1 : S), Sim w0 A locs β σ1 a w → ExtOp P o σ1 (fun σ' => amOps P T ops [] σ' k) → o.wp P a w K Q := fun σ1 h1 h2 =>
    h2 w0 A locs β a w h1 _ Q fun σ' h3 β' a' w' hs => hK _ _ _ _ (by simpa only [amOps] using h3) hs
  unfold wpOp
  rw [ho]
  simp only
  simp only [amOps] at hk
  split at hk
  · rename_i hg
    rw [if_pos (by simp [Region.wanted, hg])]
    rcases hk with hk | hk
    · exact .inl (op1 σ h (by simpa only [amOps] using hk))
    · exact .inl (opX σ h (by simpa only [amOps] using hk))
  · rename_i j want hg
    split at hk
    · exact hk.elim
    · rename_i s hs
      split at hk
      · rename_i b hb
        have hv := h.slot s
        rw [hb] at hv
        have hv' := rep_bool hv
        have hy := yielded_of hs hv'
        by_cases hw : b = want
        · rw [if_pos (by simp [Region.wanted, hg, hy, hw])]
          subst hw
          rcases hk.1 rfl with hk1 | hk1
          · exact .inl (op1 _ (h.same hb) (by simpa only [amOps] using hk1))
          · exact .inl (opX _ (h.same hb) (by simpa only [amOps] using hk1))
        · rw [if_neg (by simp [Region.wanted, hg, hy, hw])]
          have hbw : b = !want := by cases b <;> cases want <;> simp_all
          obtain ⟨hd, h2⟩ := hk.2 hbw
          subst hbw
          exact hK _ _ _ _ h2 ((h.same hb).put (fun d hdd => by rw [hdd] at hd; exact hd) rfl)
      · rename_i hb
        have hv := h.slot s
        rw [hb] at hv
        have hy := yielded_undef hs hv
        rw [if_neg (by simp [Region.wanted, hg, hy])]
        obtain ⟨hd, h2⟩ := hk
        exact hK _ _ _ _ h2 (h.put (fun d hdd => by rw [hdd] at hd; exact hd) rfl)
      · exact hk.elim

include hT in
theorem amAny_sound {l : List Oper} {k : S → Prop} {Q : Exit → Act → World → Prop} (hQ : ∀ σ' β' a' w', k σ' → Sim w0 A locs β' σ' a' w' → Q .normal a' w') : ∀ (fuel : Nat) (done : List Nat) (listed : Array Bool) (σ : S) (β : Nat → Option Loc) (a : Act) (w : World),
    (∀ i, listed.getD i false = done.contains i) → listed.size = l.length → amAny P T l k fuel done σ → Sim w0 A locs β σ a w → wpAny P .any ⟨l⟩ Q fuel listed a w := by
  intro fuel
  induction fuel with
  | zero =>
    intro done listed σ β a w hl hs hk h
    obtain ⟨h1, h2⟩ := hk
    refine ⟨List.eq_nil_iff_forall_not_mem.2 fun i hi => ?_, hQ _ _ _ _ h2 h⟩
    obtain ⟨o, ho⟩ := (ready_iff hl hs i).1 hi
    rw [h1] at ho
    cases ho
  | succ fuel ih =>
    intro done listed σ β a w hl hs hk h
    unfold amAny at hk
    have hone : ∀ i o, (i, o) ∈ readyL done 0 l → amOps P T ⟨l⟩ [o] σ (amAny P T l k fuel (i :: done)) := by
      intro i o hi
      split at hk
      · rename_i e; rw [e] at hi; cases hi
      · rename_i i0 o0 r e
        rw [e] at hi
        obtain ⟨h1, h2⟩ := hk
        rcases List.mem_cons.1 hi with e | e
        · injection e with e1 e2
          subst e1 e2
          exact h1
        · exact allR_mem h2 i o e
    refine ⟨fun hr => ?_, fun i hi => ?_⟩
    · split at hk
      · exact hQ _ _ _ _ hk h
      · rename_i i0 o0 r e
        have : i0 ∈ Region.ready .any ⟨l⟩ listed := (ready_iff hl hs i0).2 ⟨o0, by rw [e]; exact List.mem_cons_self⟩
        rw [hr] at this
        cases this
    · obtain ⟨o, ho⟩ := (ready_iff hl hs i).1 hi
      have h1 := hone i o ho
      obtain ⟨j, e, ho', _, _⟩ := (readyL_mem l 0 i o).1 ho
      simp only [Nat.zero_add] at e
      subst e
      refine amOps_step hT (ops := ⟨l⟩) (i := i) (by simpa using ho') h1 h fun σ' β' a' w' h2 h3 => ?_
      have hi' : i < listed.size := by rw [hs]; exact (List.getElem?_eq_some_iff.1 ho').1
      refine ih (i :: done) _ σ' β' a' w' (fun q => ?_) (by simpa using hs) h2 h3
      simp only [Array.getD_eq_getD_getElem?, Array.getElem?_setIfInBounds, List.contains_cons]
      by_cases e : i = q
      · subst e
        simp [hi']
      · have := hl q
        rw [Array.getD_eq_getD_getElem?] at this
        rw [if_neg e, this, show (q == i) = false from beq_eq_false_iff_ne.2 fun h => e h.symm, Bool.false_or]
end

theorem wpOp_app {P : Program} {l1 l2 : List Oper} {Q : Exit → Act → World → Prop} {i : Nat} {K : Act → World → Prop} {a : Act} {w : World} (hi : i < l1.length)
    (hg : ∀ o g want, l1[i]? = some o → o.guard = some (g, want) → g < l1.length) (h : wpOp P ⟨l1⟩ Q i K a w) : wpOp P ⟨l1 ++ l2⟩ Q i K a w := by
  unfold wpOp at h ⊢
  have e1 : (⟨l1⟩ : Array Oper)[i]? = some l1[i] := by simp [hi]
  have e2 : (⟨l1 ++ l2⟩ : Array Oper)[i]? = some l1[i] := by simp [List.getElem?_append_left hi, hi]
  rw [e1] at h
  rw [e2]
  simp only at h ⊢
  have hw : Region.wanted l1[i] (yielded ⟨l1 ++ l2⟩ a.tmps) = Region.wanted l1[i] (yielded ⟨l1⟩ a.tmps) := by
    unfold Region.wanted
    cases e : l1[i].guard with
    | none => rfl
    | some x =>
      obtain ⟨g, want⟩ := x
      have hlt := hg l1[i] g want (by simp [hi]) e
      have : (⟨l1 ++ l2⟩ : Array Oper)[g]? = (⟨l1⟩ : Array Oper)[g]? := by simp [List.getElem?_append_left hlt]
      simp only [yielded, this]
  rw [hw]
  exact h

/-- Each of the last operations waits for all the first ones. -/
def tailChk (l1 l2 : List Oper) : Bool := l2.all fun o => (List.range l1.length).all (ddeps (l1 ++ l2) o).contains

section
variable {P : Program} {T : TypeId → Option TI} (hT : TOk P T) {l1 l2 : List Oper} {t : Nat → AV} {m : Nat → Option O} {es : List Eff} {ep n : Nat} {pm : List Nat}
variable {w0 : World} {A : Nat → Prop} {locs : List (Option Loc)}
include hT in
theorem draw_walk2 (hc : drawChk l1 t es ep n m = true) (hcame : ∀ (j : Nat) (o : Oper) (e : Eff), l1[j]? = some o → es[j]? = some e → Came P T l1 t m ep es j o e) (htl : tailChk l1 l2 = true) {Q : Exit → Act → World → Prop} {ft : Nat}
    (hQ : ∀ (listed : Array Bool) β a w, (∀ i, listed.getD i false = (List.range l1.length).contains i) → listed.size = (l1 ++ l2).length → Sim w0 A locs β (stX l1 es t m ep n pm fun _ => true) a w → wpAny P .any ⟨l1 ++ l2⟩ Q ft listed a w) :
    ∀ (fuel : Nat) (listed : Array Bool) (X : Nat → Bool) (β : Nat → Option Loc) (a : Act) (w : World),
    (∀ i, listed.getD i false = (decide (i < l1.length) && X i)) → listed.size = (l1 ++ l2).length → (∀ (i : Nat) (o' : Oper), l1[i]? = some o' → X i = true → ∀ i' ∈ ddeps l1 o', X i' = true) → cnt X l1.length = fuel →
    Sim w0 A locs β (stX l1 es t m ep n pm X) a w → wpAny P .any ⟨l1 ++ l2⟩ Q (fuel + ft) listed a w := by
  obtain ⟨hlen, hat⟩ := zAll_at hc
  have hlow : ∀ (j : Nat) (o : Oper), l1[j]? = some o → ∀ i ∈ ddeps l1 o, i < j := fun j o ho i hi => by
    have hlt : j < es.length := by rw [← hlen]; exact (List.getElem?_eq_some_iff.1 ho).1
    have := hat j o _ ho (List.getElem?_eq_getElem hlt)
    simp only [Bool.and_eq_true, Nat.zero_add] at this
    exact Nat.le_of_ble_eq_true ((List.all_eq_true.1 this.1.1.1) i hi)
  have hgd : ∀ (i : Nat) (o : Oper) (g : Nat) (want : Bool), l1[i]? = some o → o.guard = some (g, want) → g < l1.length := fun i o g want ho hg => by
    have hlt : i < es.length := by rw [← hlen]; exact (List.getElem?_eq_some_iff.1 ho).1
    have := hat i o _ ho (List.getElem?_eq_getElem hlt)
    simp only [Bool.and_eq_true, Nat.zero_add] at this
    have h2 := this.1.2
    unfold guardOk at h2
    rw [hg] at h2
    simp only [Bool.and_eq_true] at h2
    have h3 := hlow i o ho g (by simpa using h2.1)
    have := (List.getElem?_eq_some_iff.1 ho).1
    omega
  have hdir : ∀ (l : List Oper) (o : Oper) i, i ∈ ddir o → i ∈ ddeps l o := fun l o i h => cloD_le l _ _ i h
  have hdirL : ∀ (o : Oper), (∃ i : Nat, l1[i]? = some o) → ∀ i ∈ ddir o, i < l1.length := fun o ⟨i, ho⟩ j hj => by
    have := hlow i o ho j (hdir l1 o j hj)
    have := (List.getElem?_eq_some_iff.1 ho).1
    omega
  -- what is ready while the first operations are not all done
  have hready : ∀ (listed : Array Bool) (X : Nat → Bool), (∀ i, listed.getD i false = (decide (i < l1.length) && X i)) → listed.size = (l1 ++ l2).length → (∀ (i : Nat) (o' : Oper), l1[i]? = some o' → X i = true → ∀ i' ∈ ddeps l1 o', X i' = true) →
      (∃ i, i < l1.length ∧ X i = false) → ∀ i, i ∈ Region.ready .any ⟨l1 ++ l2⟩ listed ↔ ∃ o, l1[i]? = some o ∧ X i = false ∧ ∀ i' ∈ ddeps l1 o, X i' = true := by
    intro listed X hl hs hcl hnf i
    have hmem : i ∈ Region.ready .any ⟨l1 ++ l2⟩ listed ↔ ∃ o, (l1 ++ l2)[i]? = some o ∧ listed.getD i false = false ∧ ∀ j ∈ ddir o, listed.getD j false = true := by
      unfold Region.ready
      simp only [List.mem_filter, List.mem_range, Bool.and_eq_true, Bool.not_eq_true']
      constructor
      · rintro ⟨h1, h2, h3⟩
        have h1' : i < (l1 ++ l2).length := h1
        have ho : (⟨l1 ++ l2⟩ : Array Oper)[i]? = some (l1 ++ l2)[i] := by simp only [List.getElem?_toArray]; exact List.getElem?_eq_getElem h1'
        rw [ho] at h3
        simp only [Option.map_some, Option.getD_some] at h3
        refine ⟨_, List.getElem?_eq_getElem h1', ?_, fun j hj => ?_⟩
        · have hz : i < listed.size := by rw [hs]; exact h1'
          rw [← h2]; simp [Array.getD, hz]
        · unfold ddir at hj
          obtain ⟨ed, hed, rfl⟩ := List.mem_map.1 hj
          obtain ⟨hm1, hm2⟩ := List.mem_filter.1 hed
          have := (Array.all_eq_true_iff_forall_mem.1 h3) ed (by simpa using hm1)
          simpa only [Bool.or_eq_true, Bool.not_eq_true', hm2, Bool.true_eq_false, false_or] using this
      · rintro ⟨o, ho, h2, h3⟩
        have h1' : i < (l1 ++ l2).length := (List.getElem?_eq_some_iff.1 ho).1
        have ho' : (⟨l1 ++ l2⟩ : Array Oper)[i]? = some o := by simpa only [List.getElem?_toArray] using ho
        refine ⟨h1', ?_, ?_⟩
        · have hz : i < listed.size := by rw [hs]; exact h1'
          rw [← h2]; simp [Array.getD, hz]
        · rw [ho']
          simp only [Option.map_some, Option.getD_some]
          refine Array.all_eq_true_iff_forall_mem.2 fun ed hed => ?_
          cases hb : Region.binds .any ed with
          | false => rfl
          | true => rw [h3 ed.on (List.mem_map.2 ⟨ed, List.mem_filter.2 ⟨by simpa using hed, hb⟩, rfl⟩)]; rfl
    rw [hmem]
    have hlX : ∀ j, listed.getD j false = true → j < l1.length ∧ X j = true := fun j hj => by
      rw [hl, Bool.and_eq_true, decide_eq_true_eq] at hj; exact hj
    constructor
    · rintro ⟨o, ho, h2, h3⟩
      by_cases hi : i < l1.length
      · rw [List.getElem?_append_left hi] at ho
        refine ⟨o, ho, ?_, fun i' hi' => cloD_in l1 (fun i o ho hx k hk => hcl i o ho hx k (hdir l1 o k hk)) _ _ (fun i' hi' => (hlX i' (h3 i' hi')).2) i' hi'⟩
        rw [hl] at h2
        simpa [hi] using h2
      · exfalso
        rw [List.getElem?_append_right (by omega)] at ho
        have hall := List.all_eq_true.1 htl o (List.mem_of_getElem? ho)
        obtain ⟨q, hq1, hq2⟩ := hnf
        have hqd := List.all_eq_true.1 hall q (List.mem_range.2 hq1)
        have hin := cloD_in (l1 ++ l2) (X := fun j => decide (j < l1.length) && X j) (fun j o' ho' hx k hk => by
          simp only [Bool.and_eq_true, decide_eq_true_eq] at hx ⊢
          rw [List.getElem?_append_left hx.1] at ho'
          exact ⟨hdirL o' ⟨j, ho'⟩ k hk, hcl j o' ho' hx.2 k (hdir l1 o' k hk)⟩) (l1 ++ l2).length (ddir o) (fun j hj => by
          have := hlX j (h3 j hj)
          simp only [Bool.and_eq_true, decide_eq_true_eq]
          exact this) q (by simpa [ddeps] using hqd)
        rw [hq2, Bool.and_false] at hin
        cases hin
    · rintro ⟨o, ho, h2, h3⟩
      have hi : i < l1.length := (List.getElem?_eq_some_iff.1 ho).1
      refine ⟨o, by rw [List.getElem?_append_left hi]; exact ho, by rw [hl, h2, Bool.and_false], fun j hj => ?_⟩
      rw [hl, h3 j (hdir l1 o j hj), Bool.and_true]
      exact decide_eq_true (hdirL o ⟨i, ho⟩ j hj)
  intro fuel
  induction fuel with
  | zero =>
    intro listed X β a w hl hs hcl hcnt h
    have hX := cnt_zero hcnt
    rw [stX_all (Y := fun _ => true) hlen hX] at h
    rw [Nat.zero_add]
    refine hQ listed β a w (fun i => ?_) hs h
    rw [hl]
    by_cases hi : i < l1.length
    · rw [hX i hi, decide_eq_true hi]; simp [hi]
    · rw [decide_eq_false hi]; simp; omega
  | succ fuel ih =>
    intro listed X β a w hl hs hcl hcnt h
    have hnf : ∃ i, i < l1.length ∧ X i = false := by
      refine Classical.byContradiction fun hn => ?_
      have : ∀ n, n ≤ l1.length → cnt X n = 0 := by
        intro n
        induction n with
        | zero => intro _; rfl
        | succ n ihn =>
          intro hn'
          have hx : X n = true := by
            cases hx : X n with
            | true => rfl
            | false => exact (hn ⟨n, by omega, hx⟩).elim
          simp only [cnt, hx, sel, ihn (by omega)]
      rw [this _ (Nat.le_refl _)] at hcnt
      omega
    rw [show fuel + 1 + ft = (fuel + ft) + 1 from by omega]
    refine ⟨fun hr => ?_, fun i hi => ?_⟩
    · exfalso
      have hall : ∀ i, i < l1.length → X i = true := by
        intro i
        induction i using Nat.strongRecOn with
        | ind i ih2 =>
          intro hi
          cases hx : X i with
          | true => rfl
          | false =>
            have ho := List.getElem?_eq_getElem hi
            have := (hready listed X hl hs hcl hnf i).2 ⟨_, ho, hx, fun i' hi' => by
              have := hlow i _ ho i' hi'
              exact ih2 i' this (by omega)⟩
            rw [hr] at this
            cases this
      obtain ⟨i, h1, h2⟩ := hnf
      rw [hall i h1] at h2
      cases h2
    · obtain ⟨o, ho, hXi, hdep⟩ := (hready listed X hl hs hcl hnf i).1 hi
      have hi' : i < l1.length := (List.getElem?_eq_some_iff.1 ho).1
      have he := List.getElem?_eq_getElem (l := es) (i := i) (by omega)
      refine wpOp_app hi' (fun o g want => hgd i o g want) (draw_op hT hc ho he (hcame i _ _ ho he) hXi hdep hcl h fun β' a' w' h' => ?_)
      refine ih _ (add X i) β' a' w' (fun k => ?_) (by simpa using hs) (fun k o' hk hx i' hi2 => ?_) ?_ h'
      · have hk := hl k
        rw [Array.getD_eq_getD_getElem?] at hk
        simp only [Array.getD_eq_getD_getElem?, Array.getElem?_setIfInBounds]
        by_cases e : i = k
        · subst e
          have : i < listed.size := by rw [hs, List.length_append]; omega
          simp [add, hi', this]
        · rw [if_neg e, hk]
          simp only [add, show (k == i) = false from beq_eq_false_iff_ne.2 fun h => e h.symm, Bool.false_or]
      · simp only [add, Bool.or_eq_true, beq_iff_eq] at hx ⊢
        rcases hx with hx | hx
        · subst hx
          rw [ho] at hk; injection hk with hk; subst hk
          exact .inr (hdep i' hi2)
        · exact .inr (hcl k o' hk hx i' hi2)
      · have := cnt_add hXi l1.length
        rw [show Nat.blt i l1.length = true from Nat.ble_eq_true_of_le hi'] at this
        simp only [sel] at this
        omega
end

/-- Each of the last operations waits for all the first ones, but for those of U. -/
def tailChkU (U : List Nat) (l1 l2 : List Oper) : Bool := l2.all fun o => (List.range l1.length).all fun i => U.contains i || (ddeps (l1 ++ l2) o).contains i
/-- The first ones done: all but U, and of U those of V. -/
def XU (U V : List Nat) (i : Nat) : Bool := !U.contains i || V.contains i
def closU (l1 : List Oper) (U V : List Nat) : Bool := (List.range l1.length).all fun i => !XU U V i || (match l1[i]? with | some o => (ddir o).all (XU U V) | none => true)
def subsL : List Nat → List (List Nat)
  | [] => [[]]
  | x :: r => subsL r ++ (subsL r).map (x :: ·)
theorem subsL_filter (X : Nat → Bool) : ∀ U : List Nat, U.filter X ∈ subsL U
  | [] => by simp [subsL]
  | x :: r => by
    have ih := subsL_filter X r
    unfold subsL
    cases h : X x with
    | true => rw [List.filter_cons_of_pos h]; exact List.mem_append_right _ (List.mem_map.2 ⟨_, ih, rfl⟩)
    | false => rw [List.filter_cons_of_neg (by simp [h])]; exact List.mem_append_left _ ih
def startK (l1 : List Oper) (U : List Nat) (K : List Nat → Prop) : List (List Nat) → Prop
  | [] => True
  | V :: Vs => match closU l1 U V with
    | true => Two (K V) (startK l1 U K Vs)
    | false => startK l1 U K Vs
theorem startK_at {l1 : List Oper} {U : List Nat} {K : List Nat → Prop} {V : List Nat} : ∀ {Vs : List (List Nat)}, startK l1 U K Vs → V ∈ Vs → closU l1 U V = true → K V
  | [], _, hV, _ => by cases hV
  | W :: Vs, h, hV, hc => by
    have h' : (match closU l1 U W with | true => Two (K W) (startK l1 U K Vs) | false => startK l1 U K Vs) := h
    rcases List.mem_cons.1 hV with rfl | hV
    · rw [hc] at h'
      exact h'.fst
    · split at h'
      · exact startK_at h'.snd hV hc
      · exact startK_at h' hV hc
theorem cnt_congr {X Y : Nat → Bool} : ∀ n, (∀ i, i < n → X i = Y i) → cnt X n = cnt Y n
  | 0, _ => rfl
  | n + 1, h => by simp only [cnt, h n (by omega), cnt_congr n fun i hi => h i (by omega)]
/-- What is asked when the last operations begin. -/
def drawnU (P : Program) (T : TypeId → Option TI) (U : List Nat) (l1 l2 : List Oper) (t : Nat → AV) (m : Nat → Option O) (ep n : Nat) (pm : List Nat) (k : S → Prop) (es : List Eff) : Prop :=
  drawChk l1 t es ep n m = true ∧ startK l1 U (fun V => amAny P T (l1 ++ l2) k (cnt (XU U V) l1.length + l2.length) ((List.range l1.length).filter (XU U V)) (stX l1 es t m ep n pm (XU U V))) (subsL U)

section
variable {P : Program} {T : TypeId → Option TI} (hT : TOk P T) {l1 l2 : List Oper} {t : Nat → AV} {m : Nat → Option O} {es : List Eff} {ep n : Nat} {pm : List Nat}
variable {w0 : World} {A : Nat → Prop} {locs : List (Option Loc)}
include hT in
theorem draw_walkU {U : List Nat} (hc : drawChk l1 t es ep n m = true) (hcame : ∀ (j : Nat) (o : Oper) (e : Eff), l1[j]? = some o → es[j]? = some e → Came P T l1 t m ep es j o e) (htl : tailChkU U l1 l2 = true) {Q : Exit → Act → World → Prop} {ft : Nat}
    (hQ : ∀ (X : Nat → Bool) (listed : Array Bool) β a w, (∀ i, listed.getD i false = (decide (i < l1.length) && X i)) → listed.size = (l1 ++ l2).length → (∀ (i : Nat) (o' : Oper), l1[i]? = some o' → X i = true → ∀ i' ∈ ddeps l1 o', X i' = true) → (∀ i, i < l1.length → U.contains i = false → X i = true) →
      (∀ o : Oper, (∃ i : Nat, l1[i]? = some o) → ∀ i ∈ ddir o, i < l1.length) → Sim w0 A locs β (stX l1 es t m ep n pm X) a w → wpAny P .any ⟨l1 ++ l2⟩ Q (cnt X l1.length + ft) listed a w) :
    ∀ (fuel : Nat) (listed : Array Bool) (X : Nat → Bool) (β : Nat → Option Loc) (a : Act) (w : World),
    (∀ i, listed.getD i false = (decide (i < l1.length) && X i)) → listed.size = (l1 ++ l2).length → (∀ (i : Nat) (o' : Oper), l1[i]? = some o' → X i = true → ∀ i' ∈ ddeps l1 o', X i' = true) → cnt X l1.length = fuel →
    Sim w0 A locs β (stX l1 es t m ep n pm X) a w → wpAny P .any ⟨l1 ++ l2⟩ Q (fuel + ft) listed a w := by
  obtain ⟨hlen, hat⟩ := zAll_at hc
  have hlow : ∀ (j : Nat) (o : Oper), l1[j]? = some o → ∀ i ∈ ddeps l1 o, i < j := fun j o ho i hi => by
    have hlt : j < es.length := by rw [← hlen]; exact (List.getElem?_eq_some_iff.1 ho).1
    have := hat j o _ ho (List.getElem?_eq_getElem hlt)
    simp only [Bool.and_eq_true, Nat.zero_add] at this
    exact Nat.le_of_ble_eq_true ((List.all_eq_true.1 this.1.1.1) i hi)
  have hgd : ∀ (i : Nat) (o : Oper) (g : Nat) (want : Bool), l1[i]? = some o → o.guard = some (g, want) → g < l1.length := fun i o g want ho hg => by
    have hlt : i < es.length := by rw [← hlen]; exact (List.getElem?_eq_some_iff.1 ho).1
    have := hat i o _ ho (List.getElem?_eq_getElem hlt)
    simp only [Bool.and_eq_true, Nat.zero_add] at this
    have h2 := this.1.2
    unfold guardOk at h2
    rw [hg] at h2
    simp only [Bool.and_eq_true] at h2
    have h3 := hlow i o ho g (by simpa using h2.1)
    have := (List.getElem?_eq_some_iff.1 ho).1
    omega
  have hdir : ∀ (l : List Oper) (o : Oper) i, i ∈ ddir o → i ∈ ddeps l o := fun l o i h => cloD_le l _ _ i h
  have hdirL : ∀ (o : Oper), (∃ i : Nat, l1[i]? = some o) → ∀ i ∈ ddir o, i < l1.length := fun o ⟨i, ho⟩ j hj => by
    have := hlow i o ho j (hdir l1 o j hj)
    have := (List.getElem?_eq_some_iff.1 ho).1
    omega
  -- what is ready while the first operations are not all done
  have hready : ∀ (listed : Array Bool) (X : Nat → Bool), (∀ i, listed.getD i false = (decide (i < l1.length) && X i)) → listed.size = (l1 ++ l2).length → (∀ (i : Nat) (o' : Oper), l1[i]? = some o' → X i = true → ∀ i' ∈ ddeps l1 o', X i' = true) →
      (∃ i, i < l1.length ∧ U.contains i = false ∧ X i = false) → ∀ i, i ∈ Region.ready .any ⟨l1 ++ l2⟩ listed ↔ ∃ o, l1[i]? = some o ∧ X i = false ∧ ∀ i' ∈ ddeps l1 o, X i' = true := by
    intro listed X hl hs hcl hnf i
    have hmem : i ∈ Region.ready .any ⟨l1 ++ l2⟩ listed ↔ ∃ o, (l1 ++ l2)[i]? = some o ∧ listed.getD i false = false ∧ ∀ j ∈ ddir o, listed.getD j false = true := by
      unfold Region.ready
      simp only [List.mem_filter, List.mem_range, Bool.and_eq_true, Bool.not_eq_true']
      constructor
      · rintro ⟨h1, h2, h3⟩
        have h1' : i < (l1 ++ l2).length := h1
        have ho : (⟨l1 ++ l2⟩ : Array Oper)[i]? = some (l1 ++ l2)[i] := by simp only [List.getElem?_toArray]; exact List.getElem?_eq_getElem h1'
        rw [ho] at h3
        simp only [Option.map_some, Option.getD_some] at h3
        refine ⟨_, List.getElem?_eq_getElem h1', ?_, fun j hj => ?_⟩
        · have hz : i < listed.size := by rw [hs]; exact h1'
          rw [← h2]; simp [Array.getD, hz]
        · unfold ddir at hj
          obtain ⟨ed, hed, rfl⟩ := List.mem_map.1 hj
          obtain ⟨hm1, hm2⟩ := List.mem_filter.1 hed
          have := (Array.all_eq_true_iff_forall_mem.1 h3) ed (by simpa using hm1)
          simpa only [Bool.or_eq_true, Bool.not_eq_true', hm2, Bool.true_eq_false, false_or] using this
      · rintro ⟨o, ho, h2, h3⟩
        have h1' : i < (l1 ++ l2).length := (List.getElem?_eq_some_iff.1 ho).1
        have ho' : (⟨l1 ++ l2⟩ : Array Oper)[i]? = some o := by simpa only [List.getElem?_toArray] using ho
        refine ⟨h1', ?_, ?_⟩
        · have hz : i < listed.size := by rw [hs]; exact h1'
          rw [← h2]; simp [Array.getD, hz]
        · rw [ho']
          simp only [Option.map_some, Option.getD_some]
          refine Array.all_eq_true_iff_forall_mem.2 fun ed hed => ?_
          cases hb : Region.binds .any ed with
          | false => rfl
          | true => rw [h3 ed.on (List.mem_map.2 ⟨ed, List.mem_filter.2 ⟨by simpa using hed, hb⟩, rfl⟩)]; rfl
    rw [hmem]
    have hlX : ∀ j, listed.getD j false = true → j < l1.length ∧ X j = true := fun j hj => by
      rw [hl, Bool.and_eq_true, decide_eq_true_eq] at hj; exact hj
    constructor
    · rintro ⟨o, ho, h2, h3⟩
      by_cases hi : i < l1.length
      · rw [List.getElem?_append_left hi] at ho
        refine ⟨o, ho, ?_, fun i' hi' => cloD_in l1 (fun i o ho hx k hk => hcl i o ho hx k (hdir l1 o k hk)) _ _ (fun i' hi' => (hlX i' (h3 i' hi')).2) i' hi'⟩
        rw [hl] at h2
        simpa [hi] using h2
      · exfalso
        rw [List.getElem?_append_right (by omega)] at ho
        have hall := List.all_eq_true.1 htl o (List.mem_of_getElem? ho)
        obtain ⟨q, hq1, hqU, hq2⟩ := hnf
        have hqd := List.all_eq_true.1 hall q (List.mem_range.2 hq1)
        rw [hqU, Bool.false_or] at hqd
        have hin := cloD_in (l1 ++ l2) (X := fun j => decide (j < l1.length) && X j) (fun j o' ho' hx k hk => by
          simp only [Bool.and_eq_true, decide_eq_true_eq] at hx ⊢
          rw [List.getElem?_append_left hx.1] at ho'
          exact ⟨hdirL o' ⟨j, ho'⟩ k hk, hcl j o' ho' hx.2 k (hdir l1 o' k hk)⟩) (l1 ++ l2).length (ddir o) (fun j hj => by
          have := hlX j (h3 j hj)
          simp only [Bool.and_eq_true, decide_eq_true_eq]
          exact this) q (by simpa [ddeps] using hqd)
        rw [hq2, Bool.and_false] at hin
        cases hin
    · rintro ⟨o, ho, h2, h3⟩
      have hi : i < l1.length := (List.getElem?_eq_some_iff.1 ho).1
      refine ⟨o, by rw [List.getElem?_append_left hi]; exact ho, by rw [hl, h2, Bool.and_false], fun j hj => ?_⟩
      rw [hl, h3 j (hdir l1 o j hj), Bool.and_true]
      exact decide_eq_true (hdirL o ⟨i, ho⟩ j hj)
  intro fuel
  induction fuel with
  | zero =>
    intro listed X β a w hl hs hcl hcnt h
    have hX := cnt_zero hcnt
    have hgo := hQ X listed β a w hl hs hcl (fun i hi _ => hX i hi) hdirL h
    rw [hcnt] at hgo
    exact hgo
  | succ fuel ih =>
    intro listed X β a w hl hs hcl hcnt h
    by_cases hgo : ∀ i, i < l1.length → U.contains i = false → X i = true
    · have hgo := hQ X listed β a w hl hs hcl hgo hdirL h
      rw [hcnt] at hgo
      exact hgo
    have hnf : ∃ i, i < l1.length ∧ U.contains i = false ∧ X i = false := by
      refine Classical.byContradiction fun hn => hgo fun i hi hu => ?_
      cases hx : X i with
      | true => rfl
      | false => exact (hn ⟨i, hi, hu, hx⟩).elim
    rw [show fuel + 1 + ft = (fuel + ft) + 1 from by omega]
    refine ⟨fun hr => ?_, fun i hi => ?_⟩
    · exfalso
      have hall : ∀ i, i < l1.length → X i = true := by
        intro i
        induction i using Nat.strongRecOn with
        | ind i ih2 =>
          intro hi
          cases hx : X i with
          | true => rfl
          | false =>
            have ho := List.getElem?_eq_getElem hi
            have := (hready listed X hl hs hcl hnf i).2 ⟨_, ho, hx, fun i' hi' => by
              have := hlow i _ ho i' hi'
              exact ih2 i' this (by omega)⟩
            rw [hr] at this
            cases this
      obtain ⟨i, h1, _, h2⟩ := hnf
      rw [hall i h1] at h2
      cases h2
    · obtain ⟨o, ho, hXi, hdep⟩ := (hready listed X hl hs hcl hnf i).1 hi
      have hi' : i < l1.length := (List.getElem?_eq_some_iff.1 ho).1
      have he := List.getElem?_eq_getElem (l := es) (i := i) (by omega)
      refine wpOp_app hi' (fun o g want => hgd i o g want) (draw_op hT hc ho he (hcame i _ _ ho he) hXi hdep hcl h fun β' a' w' h' => ?_)
      refine ih _ (add X i) β' a' w' (fun k => ?_) (by simpa using hs) (fun k o' hk hx i' hi2 => ?_) ?_ h'
      · have hk := hl k
        rw [Array.getD_eq_getD_getElem?] at hk
        simp only [Array.getD_eq_getD_getElem?, Array.getElem?_setIfInBounds]
        by_cases e : i = k
        · subst e
          have : i < listed.size := by rw [hs, List.length_append]; omega
          simp [add, hi', this]
        · rw [if_neg e, hk]
          simp only [add, show (k == i) = false from beq_eq_false_iff_ne.2 fun h => e h.symm, Bool.false_or]
      · simp only [add, Bool.or_eq_true, beq_iff_eq] at hx ⊢
        rcases hx with hx | hx
        · subst hx
          rw [ho] at hk; injection hk with hk; subst hk
          exact .inr (hdep i' hi2)
        · exact .inr (hcl k o' hk hx i' hi2)
      · have := cnt_add hXi l1.length
        rw [show Nat.blt i l1.length = true from Nat.ble_eq_true_of_le hi'] at this
        simp only [sel] at this
        omega
end

section
variable {P : Program} {T : TypeId → Option TI} (hT : TOk P T) {w0 : World} {A : Nat → Prop} {locs : List (Option Loc)}

include hT in
theorem tail_sound (hm : P.follows .mixedOrders = true) {id : Nat} {l1 l2 : List Oper} (htl : tailChk l1 l2 = true) {σ : S} {Q : Exit → Act → World → Prop} {k : S → Prop}
    (h : amDraw P T l1 σ.t σ.m σ.ep (drawnQ l1 σ.t σ.m σ.ep σ.n σ.pm (amAny P T (l1 ++ l2) k l2.length (List.range l1.length))) l1 [])
    {β : Nat → Option Loc} {a : Act} {w : World} (hs : Sim w0 A locs β σ a w) (hQ : ∀ σ' β' a' w', k σ' → Sim w0 A locs β' σ' a' w' → Q .normal a' w') : (Code.region id ⟨l1 ++ l2⟩ true).wp P Q a w := by
  obtain ⟨es, h1, h2, h3⟩ := amDraw_out l1 [] h
  simp only [List.nil_append, List.length_nil, Nat.zero_add] at h1 h3
  obtain ⟨hc, hk⟩ := h1
  refine wp_region_any hm ?_
  have hX : stX l1 es σ.t σ.m σ.ep σ.n σ.pm (fun _ => false) = σ := by
    have h1 : ∀ (l : List Oper) (es : List Eff) (i : Nat) (t : Nat → AV), tGo (fun _ => false) i l es t = t := by
      intro l
      induction l with
      | nil => intro es i t; cases es <;> rfl
      | cons o l ih =>
        intro es i t
        cases es with
        | nil => rfl
        | cons e es => exact ih es (i + 1) t
    have h2 : ∀ (es : List Eff) (i : Nat) (m : Nat → Option O), mGo (fun _ => false) i es m = m := by
      intro es
      induction es with
      | nil => intro i m; rfl
      | cons e es ih => intro i m; exact ih (i + 1) m
    unfold stX
    rw [h1, h2]
  have hs' : Sim w0 A locs β (stX l1 es σ.t σ.m σ.ep σ.n σ.pm fun _ => false) a { w with drawn := w.drawn + 1 } := by
    rw [hX]
    have kk : Keeps w (Bl A β σ.m) { w with drawn := w.drawn + 1 } (Bl A β σ.m) := Keeps.heap rfl
    exact { size := hs.size, defers := hs.defers, slot := fun i => (hs.slot i).keep kk (Goes.refl _ _), ob := fun id o ho => (hs.ob id o ho).keep kk (Goes.refl _ _) rfl (fun _ _ _ _ => rfl), inj := hs.inj, new := hs.new, fr := ⟨hs.fr.os, hs.fr.tape, hs.fr.output, hs.fr.size, hs.fr.blk, hs.fr.tb, Nat.le_succ_of_le hs.fr.drawn⟩, lt := hs.lt, pm := hs.pm }
  have hcnt : ∀ n, cnt (fun _ => false) n = n := fun n => by
    induction n with
    | zero => rfl
    | succ n ih => simp only [cnt, sel, ih]
  have hsz : (⟨l1 ++ l2⟩ : Array Oper).size = l1.length + l2.length := by simp
  rw [hsz]
  refine draw_walk2 hT hc h3 htl (ft := l2.length) (fun listed β' a' w' e1 e2 h' => amAny_sound hT hQ _ _ _ _ β' a' w' e1 e2 hk h') l1.length _ (fun _ => false) β a _ (fun i => ?_) (by simp) (fun _ _ _ h => by cases h) (hcnt _) hs'
  simp only [Array.getD_eq_getD_getElem?, Array.getElem?_replicate, Bool.and_false]
  split <;> rfl
include hT in
theorem tail_soundU (hm : P.follows .mixedOrders = true) {id : Nat} {l1 l2 : List Oper} {U : List Nat} (htl : tailChkU U l1 l2 = true) {σ : S} {Q : Exit → Act → World → Prop} {k : S → Prop}
    (h : amDraw P T l1 σ.t σ.m σ.ep (drawnU P T U l1 l2 σ.t σ.m σ.ep σ.n σ.pm k) l1 [])
    {β : Nat → Option Loc} {a : Act} {w : World} (hs : Sim w0 A locs β σ a w) (hQ : ∀ σ' β' a' w', k σ' → Sim w0 A locs β' σ' a' w' → Q .normal a' w') : (Code.region id ⟨l1 ++ l2⟩ true).wp P Q a w := by
  obtain ⟨es, h1, h2, h3⟩ := amDraw_out l1 [] h
  simp only [List.nil_append, List.length_nil, Nat.zero_add] at h1 h3
  obtain ⟨hc, hk⟩ := h1
  refine wp_region_any hm ?_
  have hX : stX l1 es σ.t σ.m σ.ep σ.n σ.pm (fun _ => false) = σ := by
    have h1 : ∀ (l : List Oper) (es : List Eff) (i : Nat) (t : Nat → AV), tGo (fun _ => false) i l es t = t := by
      intro l
      induction l with
      | nil => intro es i t; cases es <;> rfl
      | cons o l ih =>
        intro es i t
        cases es with
        | nil => rfl
        | cons e es => exact ih es (i + 1) t
    have h2 : ∀ (es : List Eff) (i : Nat) (m : Nat → Option O), mGo (fun _ => false) i es m = m := by
      intro es
      induction es with
      | nil => intro i m; rfl
      | cons e es ih => intro i m; exact ih (i + 1) m
    unfold stX
    rw [h1, h2]
  have hs' : Sim w0 A locs β (stX l1 es σ.t σ.m σ.ep σ.n σ.pm fun _ => false) a { w with drawn := w.drawn + 1 } := by
    rw [hX]
    have kk : Keeps w (Bl A β σ.m) { w with drawn := w.drawn + 1 } (Bl A β σ.m) := Keeps.heap rfl
    exact { size := hs.size, defers := hs.defers, slot := fun i => (hs.slot i).keep kk (Goes.refl _ _), ob := fun id o ho => (hs.ob id o ho).keep kk (Goes.refl _ _) rfl (fun _ _ _ _ => rfl), inj := hs.inj, new := hs.new, fr := ⟨hs.fr.os, hs.fr.tape, hs.fr.output, hs.fr.size, hs.fr.blk, hs.fr.tb, Nat.le_succ_of_le hs.fr.drawn⟩, lt := hs.lt, pm := hs.pm }
  have hcnt : ∀ n, cnt (fun _ => false) n = n := fun n => by
    induction n with
    | zero => rfl
    | succ n ih => simp only [cnt, sel, ih]
  have hsz : (⟨l1 ++ l2⟩ : Array Oper).size = l1.length + l2.length := by simp
  rw [hsz]
  refine draw_walkU hT hc h3 htl (ft := l2.length) (fun X listed β' a' w' e1 e2 hcl hnU hdl h' => ?_) l1.length _ (fun _ => false) β a _ (fun i => ?_) (by simp) (fun _ _ _ h => by cases h) (hcnt _) hs'
  · have hXU : ∀ i, i < l1.length → X i = XU U (U.filter X) i := fun i hi => by
      unfold XU
      cases hu : U.contains i with
      | false => rw [hnU i hi hu]; rfl
      | true =>
        have hm' : i ∈ U := by simpa using hu
        cases hx : X i with
        | true => simp [hm', hx]
        | false => simp [hx]
    have hcu : closU l1 U (U.filter X) = true := by
      unfold closU
      refine List.all_eq_true.2 fun i hi => ?_
      have hi := List.mem_range.1 hi
      rw [← hXU i hi, List.getElem?_eq_getElem hi]
      cases hx : X i with
      | false => rfl
      | true =>
        simp only [Bool.not_true, Bool.false_or]
        refine List.all_eq_true.2 fun j hj => ?_
        have hjl := hdl _ ⟨i, List.getElem?_eq_getElem hi⟩ j hj
        rw [← hXU j hjl]
        exact hcl i _ (List.getElem?_eq_getElem hi) hx j (cloD_le l1 _ _ j hj)
    have hk' := startK_at hk (subsL_filter X U) hcu
    rw [cnt_congr (X := X) (Y := XU U (U.filter X)) l1.length hXU]
    rw [stX_all (Y := XU U (U.filter X)) (zAll_at hc).1 hXU] at h'
    refine amAny_sound hT hQ _ _ _ _ β' a' w' (fun i => ?_) e2 hk' h'
    rw [e1, Bool.eq_iff_iff]
    simp only [Bool.and_eq_true, decide_eq_true_eq, List.contains_iff_mem, List.mem_filter, List.mem_range]
    constructor
    · rintro ⟨q1, q2⟩; exact ⟨q1, by rw [← hXU i q1]; exact q2⟩
    · rintro ⟨q1, q2⟩; exact ⟨q1, by rw [hXU i q1]; exact q2⟩
  · simp only [Array.getD_eq_getD_getElem?, Array.getElem?_replicate, Bool.and_false]
    split <;> rfl
end
end Go.Am

/-! The abstract machine, part 26: code, and a contract from a body. -/
namespace Go.Am
open Go

/-- Whatever the state stands for, some state with k stands for. -/
def Conv (σ : S) (k : S → Prop) : Prop := ∀ w0 A locs β a w, Sim w0 A locs β σ a w → ∃ σ' β', k σ' ∧ Sim w0 A locs β' σ' a w

def amC (P : Program) (T : TypeId → Option TI) : Code → (Exit → S → Prop) → S → Prop
  | .skip, Q, σ => Q .normal σ
  | .region _ ops false, Q, σ => amOps P T ops ops.toList { σ with ep := σ.ep + 1 } (Q .normal)
  | .region _ ⟨l⟩ true, Q, σ => P.follows .mixedOrders = true ∧ (amDraw P T l σ.t σ.m (σ.ep + 1) (drawnQ l σ.t σ.m (σ.ep + 1) σ.n σ.pm (Q .normal)) l [] ∨
      (∃ l1 l2, l = l1 ++ l2 ∧ tailChk l1 l2 = true ∧ amDraw P T l1 σ.t σ.m (σ.ep + 1) (drawnQ l1 σ.t σ.m (σ.ep + 1) σ.n σ.pm (amAny P T (l1 ++ l2) (Q .normal) l2.length (List.range l1.length))) l1 []) ∨
      ∃ U l1 l2, l = l1 ++ l2 ∧ tailChkU U l1 l2 = true ∧ amDraw P T l1 σ.t σ.m (σ.ep + 1) (drawnU P T U l1 l2 σ.t σ.m (σ.ep + 1) σ.n σ.pm (Q .normal)) l1 [])
  | .seq x y, Q, σ => amC P T x (thenQ (amC P T y Q) Q) σ
  | .cond c x y, Q, σ =>
    match σ.ev c with
    | .imm (.bool b) => (b = true → amC P T x Q σ) ∧ (b = false → amC P T y Q σ)
    | _ => False
  | .block id c, Q, σ => amC P T c (blockQ id Q) σ
  | .loop c, Q, σ => ∃ I : Nat → S → Prop, (∃ n σ1, Ref σ σ1 ∧ I n σ1) ∧ ∀ n σ', I n σ' → amC P T c (loopQ I n Q) σ'
  | .exit id, Q, σ => Q (.exit id) σ
  | .ret, Q, σ => Conv σ (Q .ret)
  | _, _, _ => False

section
variable {P : Program} {T : TypeId → Option TI} (hT : TOk P T) {w0 w : World} {A : Nat → Prop} {locs : List (Option Loc)} {β : Nat → Option Loc} {σ : S} {a : Act}

include hT in
/-- The abstract machine's code stands for the model's. -/
theorem amC_sound : ∀ (c : Code) (Q : Exit → S → Prop) (σ : S), amC P T c Q σ → ∀ (β : Nat → Option Loc) (a : Act) (w : World), Sim w0 A locs β σ a w → c.wp P (lift w0 A locs Q) a w := by
  intro c
  induction c with
  | skip => intro Q σ hk β a w h; exact wp_skip ⟨σ, β, hk, h⟩
  | region id ops draw =>
    intro Q σ hk β a w h
    cases draw with
    | true =>
      obtain ⟨l⟩ := ops
      obtain ⟨hm, hk⟩ := hk
      rcases hk with hk | ⟨l1, l2, rfl, htl, hk⟩ | ⟨U, l1, l2, rfl, htl, hk⟩
      · exact draw_sound hT hm (σ := { σ with ep := σ.ep + 1 }) hk (h.epoch _) fun σ' β' a' w' h1 h2 => ⟨σ', β', h1, h2⟩
      · exact tail_sound hT hm htl (σ := { σ with ep := σ.ep + 1 }) hk (h.epoch _) fun σ' β' a' w' h1 h2 => ⟨σ', β', h1, h2⟩
      · exact tail_soundU hT hm htl (σ := { σ with ep := σ.ep + 1 }) hk (h.epoch _) fun σ' β' a' w' h1 h2 => ⟨σ', β', h1, h2⟩
    | false =>
      refine wp_region_list ?_
      exact amOps_sound hT ops.toList _ _ hk β a w (h.epoch _) fun σ' β' a' w' h1 h2 => ⟨σ', β', h1, h2⟩
  | seq x y ihx ihy =>
    intro Q σ hk β a w h
    refine wp_seq (wp_mono (ihx _ σ hk β a w h) ?_)
    rintro e a' w' ⟨σ', β', h1, h2⟩
    cases e with
    | normal => exact ihy Q σ' h1 β' a' w' h2
    | _ => exact ⟨σ', β', h1, h2⟩
  | cond c x y ihx ihy =>
    intro Q σ hk β a w h
    simp only [amC] at hk
    split at hk
    · rename_i b hb
      have hv := rep_bool (h.imm hb)
      exact wp_cond_split hv (fun ht => ihx Q σ (hk.1 ht) β a w h) (fun hf => ihy Q σ (hk.2 hf) β a w h)
    · exact hk.elim
  | block id c ih =>
    intro Q σ hk β a w h
    refine wp_block (wp_mono (ih _ σ hk β a w h) ?_)
    rintro e a' w' ⟨σ', β', h1, h2⟩
    cases e with
    | exit id' =>
      simp only [blockQ] at h1
      simp only [Exit.inBlock]
      split at h1
      · rename_i e; rw [if_pos e]; exact ⟨σ', β', h1, h2⟩
      · rename_i e; rw [if_neg e]; exact ⟨σ', β', h1, h2⟩
    | _ => exact ⟨σ', β', h1, h2⟩
  | loop c ih =>
    intro Q σ hk β a w h
    obtain ⟨I, ⟨n, σ1, hr, hI⟩, hround⟩ := hk
    obtain ⟨β1, h1⟩ := hr _ _ _ _ _ _ h
    refine wp_loop_ghost (fun n a w => ∃ σ' β', I n σ' ∧ Sim w0 A locs β' σ' a w) n ⟨σ1, β1, hI, h1⟩ ?_
    rintro n' a' w' ⟨σ', β', hI', h2⟩
    refine wp_mono (ih _ σ' (hround n' σ' hI') β' a' w' h2) ?_
    rintro e a'' w'' ⟨σ'', β'', h3, h4⟩
    cases e with
    | normal =>
      obtain ⟨m, σ2, hm, hr2, hI2⟩ := h3
      obtain ⟨β2, h5⟩ := hr2 _ _ _ _ _ _ h4
      exact ⟨m, hm, σ2, β2, hI2, h5⟩
    | _ => exact ⟨σ'', β'', h3, h4⟩
  | rangeFunc f params assign body _ _ => intro Q σ hk; exact hk.elim
  | exit id => intro Q σ hk β a w h; exact wp_exit ⟨σ, β, hk, h⟩
  | scope body _ => intro Q σ hk; exact hk.elim
  | label l => intro Q σ hk; exact hk.elim
  | goto l => intro Q σ hk; exact hk.elim
  | ret =>
    intro Q σ hk β a w h
    obtain ⟨σ', β', h1, h2⟩ := hk _ _ _ _ _ _ h
    exact wp_ret ⟨σ', β', h1, h2⟩
  | refuse why => intro Q σ hk; exact hk.elim

end

/-- A contract from the body. -/
theorem callOk_of {P : Program} {T : TypeId → Option TI} (hT : TOk P T) {f : FuncId} {fn : Func} {c : Code} (hf : P.funcs[f]? = some fn) (hn : (fn.name == "runtime.NumGoroutine") = false) (hb : fn.body = some c)
    {ins : List In} {out : Out} (hl : ins.length ≤ 1000) (hln : ins.length ≤ fn.ntmps) (hmo : MutOk ins out) (h : amC P T c (retQ T fn ins out) (inS ins fn.ntmps)) : CallOk P f ins out := by
  refine ⟨⟨fn, hf, hn, by rw [hb]; rfl⟩, hl, hmo, fun w A locs β vs hs hsz => ?_⟩
  have hs1 : Sim w A locs β (inS ins fn.ntmps) { tmps := vs ++ Array.replicate (fn.ntmps - vs.size) Go.undef, defers := [] } w := by
    refine { size := by simp [inS, hsz]; omega, defers := rfl, slot := fun i => ?_, ob := hs.ob, inj := hs.inj, new := hs.new, fr := hs.fr, lt := hs.lt, pm := hs.pm }
    by_cases hi : i < vs.size
    · have := hs.slot i
      have e : (vs ++ Array.replicate (fn.ntmps - vs.size) Go.undef).getD i Go.undef = vs.getD i Go.undef := by
        simp [Array.getD_eq_getD_getElem?, Array.getElem?_append_left hi]
      show AvRep w _ _ _ _ ((vs ++ Array.replicate (fn.ntmps - vs.size) Go.undef).getD i Go.undef)
      rw [e]; exact this
    · have e : (vs ++ Array.replicate (fn.ntmps - vs.size) Go.undef).getD i Go.undef = Go.undef := by
        simp only [Array.getD_eq_getD_getElem?, Array.getElem?_append_right (Nat.le_of_not_lt hi), Array.getElem?_replicate]
        split <;> rfl
      show AvRep w _ _ _ (inT ins i) ((vs ++ Array.replicate (fn.ntmps - vs.size) Go.undef).getD i Go.undef)
      rw [e]
      have : ins[i]? = none := List.getElem?_eq_none (by omega)
      unfold inT; rw [this]; rfl
  refine calls_of_wp hf hb (wp_mono (amC_sound hT c _ _ h β _ w hs1) ?_)
  rintro e a' w' ⟨σ', β', h1, h2⟩
  obtain ⟨he, hret⟩ := retOk_of h1
  obtain ⟨vals, β2, h3, h4⟩ := ret_sim hT h2 hl (mutOk_box hmo) hret
  rcases he with rfl | rfl
  · exact ⟨h2.defers, _, h3, vals, β2, rfl, h4⟩
  · exact ⟨h2.defers, _, h3, vals, β2, rfl, h4⟩

end Go.Am

/-! The abstract machine, part 27: rules by which a walk goes, one operation each. -/
namespace Go.Am
open Go

section
variable {P : Program} {T : TypeId → Option TI} {t : Nat → AV} {m : Nat → Option O} {ep n : Nat} {pm : List Nat} {Q : Exit → S → Prop} {k : S → Prop}

theorem go_op {ops : Array Oper} {rest : List Oper} {dst : Option Nat} {op : Op} {ty : TypeId} {pos : String} {after : Array Edge} (hd : dstOk dst n = true)
    (h : amOp P T (evT t) m ep ⟨dst, op, ty, pos, after, none⟩ fun e => forceV e.v fun v => forceM m e.up fun m' => amOps P T ops rest ⟨putT t dst v, m', ep, n, pm⟩ k) :
    amOps P T ops (⟨dst, op, ty, pos, after, none⟩ :: rest) ⟨t, m, ep, n, pm⟩ k := by
  unfold amOps
  refine .inl ⟨dstOk_at hd, ?_⟩
  simp only [app_eq, ev_eq]
  simpa only [forceV_eq, forceM_eq] using h

theorem go_ext {ops : Array Oper} {rest : List Oper} {dst : Option Nat} {op : Op} {ty : TypeId} {pos : String} {after : Array Edge} {σ : S}
    (h : ExtOp P ⟨dst, op, ty, pos, after, none⟩ σ fun σ' => amOps P T ops rest σ' k) : amOps P T ops (⟨dst, op, ty, pos, after, none⟩ :: rest) σ k := by
  unfold amOps
  exact .inr h

theorem go_hit {ops : Array Oper} {rest : List Oper} {dst : Option Nat} {op : Op} {ty : TypeId} {pos : String} {after : Array Edge} {j s : Nat} {want : Bool} (hs : gslot ops j = some s) (hb : t s = .imm (.bool want)) (hd : dstOk dst n = true)
    (h : amOp P T (evT t) m ep ⟨dst, op, ty, pos, after, some (j, want)⟩ fun e => forceV e.v fun v => forceM m e.up fun m' => amOps P T ops rest ⟨putT t dst v, m', ep, n, pm⟩ k) :
    amOps P T ops (⟨dst, op, ty, pos, after, some (j, want)⟩ :: rest) ⟨t, m, ep, n, pm⟩ k := by
  have hu : upd t s (.imm (.bool want)) = t := by
    funext i; unfold upd; split
    · rename_i e; rw [e, hb]
    · rfl
  unfold amOps
  simp only [hs, hb, hu]
  refine ⟨fun _ => .inl ⟨dstOk_at hd, ?_⟩, fun h => by cases want <;> cases h⟩
  simp only [app_eq, ev_eq]
  simpa only [forceV_eq, forceM_eq] using h

/-- A step of another kind, behind a guard that lets it through. -/
theorem go_extG {ops : Array Oper} {rest : List Oper} {dst : Option Nat} {op : Op} {ty : TypeId} {pos : String} {after : Array Edge} {j s : Nat} {want : Bool} (hs : gslot ops j = some s) (hb : t s = .imm (.bool want))
    (h : ExtOp P ⟨dst, op, ty, pos, after, some (j, want)⟩ ⟨t, m, ep, n, pm⟩ fun σ' => amOps P T ops rest σ' k) :
    amOps P T ops (⟨dst, op, ty, pos, after, some (j, want)⟩ :: rest) ⟨t, m, ep, n, pm⟩ k := by
  have hu : upd t s (.imm (.bool want)) = t := by
    funext i; unfold upd; split
    · rename_i e; rw [e, hb]
    · rfl
  unfold amOps
  simp only [hs, hb, hu]
  exact ⟨fun _ => .inr h, fun h => by cases want <;> cases h⟩

theorem go_miss {ops : Array Oper} {rest : List Oper} {dst : Option Nat} {op : Op} {ty : TypeId} {pos : String} {after : Array Edge} {j s : Nat} {want : Bool} (hs : gslot ops j = some s) (hb : t s = .imm (.bool (!want))) (hd : dstOk dst n = true)
    (h : amOps P T ops rest ⟨putT t dst .undef, m, ep, n, pm⟩ k) :
    amOps P T ops (⟨dst, op, ty, pos, after, some (j, want)⟩ :: rest) ⟨t, m, ep, n, pm⟩ k := by
  have hu : upd t s (.imm (.bool (!want))) = t := by
    funext i; unfold upd; split
    · rename_i e; rw [e, hb]
    · rfl
  unfold amOps
  simp only [hs, hb, hu]
  refine ⟨fun h => (by cases want <;> cases h), fun _ => ⟨dstOk_at hd, ?_⟩⟩
  simp only [put_eq]
  exact h

theorem go_undef {ops : Array Oper} {rest : List Oper} {dst : Option Nat} {op : Op} {ty : TypeId} {pos : String} {after : Array Edge} {j s : Nat} {want : Bool} (hs : gslot ops j = some s) (hb : t s = .undef) (hd : dstOk dst n = true)
    (h : amOps P T ops rest ⟨putT t dst .undef, m, ep, n, pm⟩ k) :
    amOps P T ops (⟨dst, op, ty, pos, after, some (j, want)⟩ :: rest) ⟨t, m, ep, n, pm⟩ k := by
  unfold amOps
  simp only [hs, hb]
  refine ⟨dstOk_at hd, ?_⟩
  simp only [put_eq]
  exact h

theorem go_splitT {ops : Array Oper} {rest : List Oper} {dst : Option Nat} {op : Op} {ty : TypeId} {pos : String} {after : Array Edge} {j s : Nat} {b : Bool} (hs : gslot ops j = some s) (hb : t s = .imm (.bool b)) (hd : dstOk dst n = true)
    (h1 : b = true → amOp P T (evT (upd t s (.imm (.bool true)))) m ep ⟨dst, op, ty, pos, after, some (j, true)⟩ fun e => forceV e.v fun v => forceM m e.up fun m' => amOps P T ops rest ⟨putT (upd t s (.imm (.bool true))) dst v, m', ep, n, pm⟩ k)
    (h2 : b = false → amOps P T ops rest ⟨putT (upd t s (.imm (.bool false))) dst .undef, m, ep, n, pm⟩ k) :
    amOps P T ops (⟨dst, op, ty, pos, after, some (j, true)⟩ :: rest) ⟨t, m, ep, n, pm⟩ k := by
  unfold amOps
  simp only [hs, hb]
  refine ⟨fun e => .inl ⟨dstOk_at hd, ?_⟩, fun e => ⟨dstOk_at hd, ?_⟩⟩
  · simp only [app_eq, ev_eq]
    simpa only [forceV_eq, forceM_eq] using h1 e
  · simp only [put_eq]
    exact h2 e

theorem go_splitF {ops : Array Oper} {rest : List Oper} {dst : Option Nat} {op : Op} {ty : TypeId} {pos : String} {after : Array Edge} {j s : Nat} {b : Bool} (hs : gslot ops j = some s) (hb : t s = .imm (.bool b)) (hd : dstOk dst n = true)
    (h1 : b = false → amOp P T (evT (upd t s (.imm (.bool false)))) m ep ⟨dst, op, ty, pos, after, some (j, false)⟩ fun e => forceV e.v fun v => forceM m e.up fun m' => amOps P T ops rest ⟨putT (upd t s (.imm (.bool false))) dst v, m', ep, n, pm⟩ k)
    (h2 : b = true → amOps P T ops rest ⟨putT (upd t s (.imm (.bool true))) dst .undef, m, ep, n, pm⟩ k) :
    amOps P T ops (⟨dst, op, ty, pos, after, some (j, false)⟩ :: rest) ⟨t, m, ep, n, pm⟩ k := by
  unfold amOps
  simp only [hs, hb]
  refine ⟨fun e => .inl ⟨dstOk_at hd, ?_⟩, fun e => ⟨dstOk_at hd, ?_⟩⟩
  · simp only [app_eq, ev_eq]
    simpa only [forceV_eq, forceM_eq] using h1 e
  · simp only [put_eq]
    exact h2 e

theorem go_nil {ops : Array Oper} {σ : S} (h : k σ) : amOps P T ops [] σ k := by unfold amOps; exact h

theorem go_seq {x y : Code} {σ : S} (h : amC P T x (thenQ (amC P T y Q) Q) σ) : amC P T (.seq x y) Q σ := h
theorem go_region {id : Nat} {l : List Oper} (h : amOps P T ⟨l⟩ l ⟨t, m, ep + 1, n, pm⟩ (Q .normal)) : amC P T (.region id ⟨l⟩ false) Q ⟨t, m, ep, n, pm⟩ := h
theorem go_draw {id : Nat} {l : List Oper} (hm : P.follows .mixedOrders = true) (h : amDraw P T l t m (ep + 1) (drawnQ l t m (ep + 1) n pm (Q .normal)) l []) : amC P T (.region id ⟨l⟩ true) Q ⟨t, m, ep, n, pm⟩ := ⟨hm, .inl h⟩
/-- A region's first operations and its last ones. -/
def cutK : Nat → List Oper → (List Oper → List Oper → Prop) → Prop
  | p + 1, o :: l, K => cutK p l fun l1 l2 => K (o :: l1) l2
  | _, l, K => K [] l
theorem cutK_eq : ∀ (p : Nat) (l : List Oper) (K : List Oper → List Oper → Prop), cutK p l K → ∃ l1 l2, l = l1 ++ l2 ∧ K l1 l2
  | 0, l, K, h => ⟨[], l, rfl, by cases l <;> exact h⟩
  | p + 1, [], K, h => ⟨[], [], rfl, h⟩
  | p + 1, o :: l, K, h => by
    obtain ⟨l1, l2, e, h1⟩ := cutK_eq p l _ h
    exact ⟨o :: l1, l2, by rw [e]; rfl, h1⟩
def tailQ (P : Program) (T : TypeId → Option TI) (l1 l2 : List Oper) (k : S → Prop) : S → Prop := amAny P T (l1 ++ l2) k l2.length (List.range l1.length)
theorem go_drawT (id p : Nat) {l : List Oper} (hm : P.follows .mixedOrders = true) (h : cutK p l fun l1 l2 => tailChk l1 l2 = true ∧ amDraw P T l1 t m (ep + 1) (drawnQ l1 t m (ep + 1) n pm (tailQ P T l1 l2 (Q .normal))) l1 []) : amC P T (.region id ⟨l⟩ true) Q ⟨t, m, ep, n, pm⟩ := by
  obtain ⟨l1, l2, e, h1, h2⟩ := cutK_eq p l _ h
  exact ⟨hm, .inr (.inl ⟨l1, l2, e, h1, h2⟩)⟩
/-- The last operations wait for all the first ones but for those of U: they are told from every state in which they may begin. -/
theorem go_drawU (id p : Nat) (U : List Nat) {l : List Oper} (hm : P.follows .mixedOrders = true) (h : cutK p l fun l1 l2 => tailChkU U l1 l2 = true ∧ amDraw P T l1 t m (ep + 1) (drawnU P T U l1 l2 t m (ep + 1) n pm (Q .normal)) l1 []) : amC P T (.region id ⟨l⟩ true) Q ⟨t, m, ep, n, pm⟩ := by
  obtain ⟨l1, l2, e, h1, h2⟩ := cutK_eq p l _ h
  exact ⟨hm, .inr (.inr ⟨U, l1, l2, e, h1, h2⟩)⟩
/-- The next one, whichever it is. -/
theorem go_any {l : List Oper} {k : S → Prop} {fuel : Nat} {done : List Nat} {σ : S} (h : match readyL done 0 l with
    | [] => k σ
    | (i, o) :: r => Two (amOps P T ⟨l⟩ [o] σ (amAny P T l k fuel (i :: done))) (allR (fun i o => amOps P T ⟨l⟩ [o] σ (amAny P T l k fuel (i :: done))) r)) : amAny P T l k (fuel + 1) done σ := h
theorem go_any0 {l : List Oper} {k : S → Prop} {done : List Nat} {σ : S} (hr : readyL done 0 l = []) (h : k σ) : amAny P T l k 0 done σ := ⟨hr, h⟩
def forceD : List Oper → List Eff → (Nat → AV) → (Nat → Option O) → ((Nat → AV) → (Nat → Option O) → Prop) → Prop
  | o :: l, ⟨v, up⟩ :: es, t, m, K => forceM m up fun m' => forceD l es (putT t o.dst v) m' K
  | [], _, t, m, K => K t m
  | _ :: _, [], t, m, K => K t m

theorem forceD_eq : ∀ (l : List Oper) (es : List Eff) (i : Nat) (t : Nat → AV) (m : Nat → Option O) (K : (Nat → AV) → (Nat → Option O) → Prop), l.length = es.length → forceD l es t m K = K (tGo (fun _ => true) i l es t) (mGo (fun _ => true) i es m)
  | [], [], i, t, m, K, _ => rfl
  | [], _ :: _, i, t, m, K, h => by simp at h
  | _ :: _, [], i, t, m, K, h => by simp at h
  | o :: l, ⟨v, up⟩ :: es, i, t, m, K, h => by
    unfold forceD
    rw [forceM_eq, forceD_eq l es (i + 1) _ _ K (by simpa using h)]
    rfl

theorem go_dend {l : List Oper} {es : List Eff} (hc : drawChk l t es ep n m = true) (h : forceD l es t m fun t' m' => k ⟨t', m', ep, n, pm⟩) : amDraw P T l t m ep (drawnQ l t m ep n pm k) [] es := by
  unfold amDraw
  refine ⟨hc, ?_⟩
  rw [forceD_eq l es 0 t m _ (zAll_at hc).1] at h
  exact h

/-! What an operation of a region that draws sees, reckoned out first. -/

def seeT (X : Nat → Bool) : Nat → List Oper → List Eff → (Nat → AV) → ((Nat → AV) → Prop) → Prop
  | i, o :: l, ⟨v, _⟩ :: es, t, K => match X i with
    | true => seeT X (i + 1) l es (putT t o.dst v) K
    | false => seeT X (i + 1) l es t K
  | _, [], _, t, K => K t
  | _, _ :: _, [], t, K => K t
def seeM (X : Nat → Bool) : Nat → List Eff → (Nat → Option O) → ((Nat → Option O) → Prop) → Prop
  | i, ⟨_, up⟩ :: es, m, K => match X i with
    | true => forceM m up fun m' => seeM X (i + 1) es m' K
    | false => seeM X (i + 1) es m K
  | _, [], m, K => K m
def seeB (X : Nat → Bool) : Nat → List Eff → List Nat → (List Nat → Prop) → Prop
  | i, ⟨_, up⟩ :: es, bad, K => match X i with
    | true => seeB X (i + 1) es bad K
    | false => match up with
      | [] => seeB X (i + 1) es bad K
      | x :: r => seeB X (i + 1) es (bad ++ (x :: r).map (·.1)) K
  | _, [], bad, K => K bad
def snocE : List Eff → Eff → (List Eff → Prop) → Prop
  | [], e, K => K [e]
  | a :: as, e, K => snocE as e fun l => K (a :: l)

theorem seeT_eq (X : Nat → Bool) : ∀ (l : List Oper) (es : List Eff) (i : Nat) (t : Nat → AV) (K : (Nat → AV) → Prop), seeT X i l es t K = K (tGo X i l es t)
  | [], _, _, _, _ => by unfold seeT tGo; rfl
  | _ :: _, [], _, _, _ => by unfold seeT tGo; rfl
  | o :: l, ⟨v, up⟩ :: es, i, t, K => by
    unfold seeT tGo
    cases X i
    · simp only [sel]; exact seeT_eq X l es (i + 1) t K
    · simp only [sel]; exact seeT_eq X l es (i + 1) _ K
theorem seeM_eq (X : Nat → Bool) : ∀ (es : List Eff) (i : Nat) (m : Nat → Option O) (K : (Nat → Option O) → Prop), seeM X i es m K = K (mGo X i es m)
  | [], _, _, _ => by unfold seeM mGo; rfl
  | ⟨v, up⟩ :: es, i, m, K => by
    unfold seeM mGo
    cases X i
    · simp only [sel]; exact seeM_eq X es (i + 1) m K
    · simp only [sel, forceM_eq]; exact seeM_eq X es (i + 1) _ K
theorem go_dendU {U : List Nat} {l1 l2 : List Oper} {es : List Eff} (hc : drawChk l1 t es ep n m = true)
    (h : startK l1 U (fun V => seeT (XU U V) 0 l1 es t fun t' => seeM (XU U V) 0 es m fun m' => amAny P T (l1 ++ l2) k (cnt (XU U V) l1.length + l2.length) ((List.range l1.length).filter (XU U V)) ⟨t', m', ep, n, pm⟩) (subsL U)) :
    amDraw P T l1 t m ep (drawnU P T U l1 l2 t m ep n pm k) [] es := by
  unfold amDraw
  refine ⟨hc, ?_⟩
  simp only [seeT_eq, seeM_eq] at h
  exact h
theorem seeB_eq (D : List Nat) : ∀ (es : List Eff) (i : Nat) (bad : List Nat) (K : (List Nat → Prop)), seeB D.contains i es bad K = ∃ b, (∀ id, b.contains id = (bad.contains id || !touchOk D i es id)) ∧ seeB D.contains i es bad (fun b' => b' = b ∧ K b) := by
  intro es
  induction es with
  | nil =>
    intro i bad K
    unfold seeB
    apply propext
    constructor
    · intro h
      refine ⟨bad, fun id => by simp [touchOk], rfl, h⟩
    · rintro ⟨b, _, rfl, h⟩
      exact h
  | cons e es ih =>
    intro i bad K
    obtain ⟨v, up⟩ := e
    unfold seeB
    cases hX : D.contains i with
    | true =>
      simp only
      rw [ih]
      apply propext
      constructor <;> rintro ⟨b, h1, h2⟩ <;> refine ⟨b, fun id => ?_, h2⟩
      · rw [h1 id]; simp only [touchOk, hX, Bool.true_or, Bool.true_and]
      · have := h1 id; simp only [touchOk, hX, Bool.true_or, Bool.true_and] at this; exact this
    | false =>
      cases up with
      | nil =>
        simp only
        rw [ih]
        apply propext
        constructor <;> rintro ⟨b, h1, h2⟩ <;> refine ⟨b, fun id => ?_, h2⟩
        · rw [h1 id]; simp only [touchOk, hX, ids, List.map_nil, List.contains_nil, Bool.not_false, Bool.or_true, Bool.true_and]
        · have := h1 id; simp only [touchOk, hX, ids, List.map_nil, List.contains_nil, Bool.not_false, Bool.or_true, Bool.true_and] at this; exact this
      | cons x r =>
        simp only
        rw [ih]
        have key : ∀ id, ((bad ++ (x :: r).map (·.1)).contains id || !touchOk D (i + 1) es id) = (bad.contains id || !touchOk D i (⟨v, x :: r⟩ :: es) id) := by
          intro id
          simp only [touchOk, hX, Bool.false_or, ids, Bool.not_and, Bool.not_not, List.contains_eq_mem, List.mem_append]
          cases h1 : decide (id ∈ bad) <;> cases h2 : decide (id ∈ (x :: r).map (·.1)) <;> simp_all
        apply propext
        constructor <;> rintro ⟨b, h1, h2⟩ <;> refine ⟨b, fun id => ?_, h2⟩
        · rw [h1 id, key]
        · rw [h1 id, key]
theorem snocE_eq : ∀ (acc : List Eff) (e : Eff) (K : List Eff → Prop), snocE acc e K = K (acc ++ [e])
  | [], _, _ => rfl
  | a :: as, e, K => by unfold snocE; exact snocE_eq as e _

def forceN : List Nat → (List Nat → Prop) → Prop
  | [], K => K []
  | x :: r, K => forceN r fun l => K (x :: l)
theorem forceN_eq : ∀ (l : List Nat) (K : List Nat → Prop), forceN l K = K l
  | [], _ => rfl
  | x :: r, K => by unfold forceN; exact forceN_eq r _

def cloK (l : List Oper) : Nat → List Nat → (List Nat → Prop) → Prop
  | n + 1, a, K => forceN (sel (a.contains n) (a ++ match l[n]? with | some o => (ddir o).filter fun i => !a.contains i | none => []) a) fun a' => cloK l n a' K
  | 0, a, K => forceN a K
theorem cloK_eq (l : List Oper) : ∀ (n : Nat) (a : List Nat) (K : List Nat → Prop), cloK l n a K = K (cloD l n a)
  | 0, _, _ => by unfold cloK; exact forceN_eq _ _
  | n + 1, a, K => by unfold cloK cloD; rw [forceN_eq]; exact cloK_eq l n _ K

theorem seen (l : List Oper) (ρ : Operand → AV) (o : Oper) (acc : List Eff) (ep : Nat) (m : Nat → Option O) {K : (Nat → Option O) → Prop}
    (h : seeM (ddeps l o).contains 0 acc m fun m' => seeB (ddeps l o).contains 0 acc [] fun bad => forceN (refsOf ρ (opIn o.op)) fun rf => K (fun id => sel (!(hides rf o.op id && !ownId ep o id) && !bad.contains id) (m' id) none)) : K (mSee l ρ ep o acc m) := by
  simp only [forceN_eq] at h
  rw [seeM_eq, seeB_eq] at h
  obtain ⟨b, h1, h2⟩ := h
  have h3 : ∀ (es : List Eff) (i : Nat) (bad : List Nat) (K' : List Nat → Prop) (C : Prop), (∀ x, K' x → C) → seeB (ddeps l o).contains i es bad K' → C := by
    intro es
    induction es with
    | nil => intro i bad K' C hC h; exact hC _ h
    | cons e es ih =>
      intro i bad K' C hC h
      obtain ⟨v, up⟩ := e
      unfold seeB at h
      split at h
      · exact ih _ _ _ _ hC h
      · split at h
        · exact ih _ _ _ _ hC h
        · exact ih _ _ _ _ hC h
  have hK := h3 acc 0 [] _ _ (fun x hx => hx.2) h2
  have he : mSee l ρ ep o acc m = fun id => sel (!(hides (refsOf ρ (opIn o.op)) o.op id && !ownId ep o id) && !b.contains id) (mGo (ddeps l o).contains 0 acc m id) none := by
    funext id
    unfold mSee
    have := h1 id
    simp only [List.contains_nil, Bool.false_or] at this
    rw [this, Bool.not_not]
  rw [he]
  exact hK

theorem go_dop {l rest : List Oper} {acc : List Eff} {kk : List Eff → Prop} {dst : Option Nat} {op : Op} {ty : TypeId} {pos : String} {after : Array Edge} (hdet : detOk op = true)
    (h : cloK l l.length (ddir ⟨dst, op, ty, pos, after, none⟩) fun D => seeT D.contains 0 l acc t fun t' => seeM D.contains 0 acc m fun m' => seeB D.contains 0 acc [] fun bad => forceN (refsOf (evT t') (opIn op)) fun rf =>
      amOp P T (evT t') (fun id => sel (!(hides rf op id && !ownId ep ⟨dst, op, ty, pos, after, none⟩ id) && !bad.contains id) (m' id) none) ep ⟨dst, op, ty, pos, after, none⟩ fun e => forceV e.v fun v => forceU e.up fun up => snocE acc ⟨v, up⟩ fun acc' => amDraw P T l t m ep kk rest acc') :
    amDraw P T l t m ep kk (⟨dst, op, ty, pos, after, none⟩ :: rest) acc := by
  rw [cloK_eq, show cloD l l.length _ = ddeps l _ from rfl, seeT_eq] at h
  have h' := seen l (evT (tSee l ⟨dst, op, ty, pos, after, none⟩ acc t)) (K := fun mm => amOp P T (evT (tSee l ⟨dst, op, ty, pos, after, none⟩ acc t)) mm ep ⟨dst, op, ty, pos, after, none⟩ fun e => forceV e.v fun v => forceU e.up fun up => snocE acc ⟨v, up⟩ fun acc' => amDraw P T l t m ep kk rest acc') _ acc ep m h
  unfold amDraw
  simp only [hdet]
  refine .inl ?_
  simpa only [forceV_eq, forceU_eq, snocE_eq] using h'

/-- A slice that is read becomes an array of our own at once. -/
theorem go_dtake {l rest : List Oper} {acc : List Eff} {kk : List Eff → Prop} {d : Nat} {op : Op} {ty : TypeId} {pos : String} {after : Array Edge} (hdet : detOk op = true) {v : Value} {id aty sz : Nat} {rows : List (List D)} {I I' : World → (Nat → Prop) → Prop}
    (hI : ∀ w F, ExtAt I w F → ∃ F0 F1 : Nat → Prop, (∀ b, F0 b ∨ F1 b → F b) ∧ (∀ b, ¬ (F0 b ∧ F1 b)) ∧ FlatI aty sz rows v w F0 ∧ ExtAt I' w F1)
    (h : cloK l l.length (ddir ⟨some d, op, ty, pos, after, none⟩) fun D => seeT D.contains 0 l acc t fun t' => seeM D.contains 0 acc m fun m' => seeB D.contains 0 acc [] fun bad => forceN (refsOf (evT t') (opIn op)) fun rf =>
      (fun mm : Nat → Option O => amOp P T (evT t') mm ep ⟨some d, op, ty, pos, after, none⟩ (fun e => e = ⟨.imm (.other v), []⟩) ∧ mm id = some (.ext I) ∧ mm (rid ep d 0) = none ∧ mm (rid ep d 1) = none ∧
        snocE acc ⟨.own (rid ep d 0) 0 rows.length, [(id, .gone), (rid ep d 0, .arr aty sz rows), (rid ep d 1, .ext I')]⟩ fun acc' => amDraw P T l t m ep kk rest acc') (fun id => sel (!(hides rf op id && !ownId ep ⟨some d, op, ty, pos, after, none⟩ id) && !bad.contains id) (m' id) none)) :
    amDraw P T l t m ep kk (⟨some d, op, ty, pos, after, none⟩ :: rest) acc := by
  rw [cloK_eq, show cloD l l.length _ = ddeps l _ from rfl, seeT_eq] at h
  have h' := seen l (evT (tSee l ⟨some d, op, ty, pos, after, none⟩ acc t)) (K := fun mm => amOp P T (evT (tSee l ⟨some d, op, ty, pos, after, none⟩ acc t)) mm ep ⟨some d, op, ty, pos, after, none⟩ (fun e => e = ⟨.imm (.other v), []⟩) ∧ mm id = some (.ext I) ∧ mm (rid ep d 0) = none ∧ mm (rid ep d 1) = none ∧
        snocE acc ⟨.own (rid ep d 0) 0 rows.length, [(id, .gone), (rid ep d 0, .arr aty sz rows), (rid ep d 1, .ext I')]⟩ fun acc' => amDraw P T l t m ep kk rest acc') _ acc ep m h
  unfold amDraw
  simp only [hdet]
  obtain ⟨h1, h2, h3, h4, h5⟩ := h'
  rw [snocE_eq] at h5
  exact .inr ⟨d, v, id, aty, sz, rows, I, I', rfl, h1, h2, h3, h4, hI, h5⟩

theorem go_dhit {l rest : List Oper} {acc : List Eff} {kk : List Eff → Prop} {dst : Option Nat} {op : Op} {ty : TypeId} {pos : String} {after : Array Edge} {g : Nat} {want : Bool} (hdet : detOk op = true) (hb : (acc.getD g ⟨.dead, []⟩).v = .imm (.bool want))
    (h : cloK l l.length (ddir ⟨dst, op, ty, pos, after, some (g, want)⟩) fun D => seeT D.contains 0 l acc t fun t' => seeM D.contains 0 acc m fun m' => seeB D.contains 0 acc [] fun bad => forceN (refsOf (evT t') (opIn op)) fun rf =>
      amOp P T (evT t') (fun id => sel (!(hides rf op id && !ownId ep ⟨dst, op, ty, pos, after, some (g, want)⟩ id) && !bad.contains id) (m' id) none) ep ⟨dst, op, ty, pos, after, some (g, want)⟩ fun e => forceV e.v fun v => forceU e.up fun up => snocE acc ⟨v, up⟩ fun acc' => amDraw P T l t m ep kk rest acc') :
    amDraw P T l t m ep kk (⟨dst, op, ty, pos, after, some (g, want)⟩ :: rest) acc := by
  rw [cloK_eq, show cloD l l.length _ = ddeps l _ from rfl, seeT_eq] at h
  have h' := seen l (evT (tSee l ⟨dst, op, ty, pos, after, some (g, want)⟩ acc t)) (K := fun mm => amOp P T (evT (tSee l ⟨dst, op, ty, pos, after, some (g, want)⟩ acc t)) mm ep ⟨dst, op, ty, pos, after, some (g, want)⟩ fun e => forceV e.v fun v => forceU e.up fun up => snocE acc ⟨v, up⟩ fun acc' => amDraw P T l t m ep kk rest acc') _ acc ep m h
  unfold amDraw
  simp only [hdet, hb]
  refine ⟨fun _ => .inl ?_, fun e => by cases want <;> cases e⟩
  simpa only [forceV_eq, forceU_eq, snocE_eq] using h'

theorem go_dmiss {l rest : List Oper} {acc : List Eff} {kk : List Eff → Prop} {dst : Option Nat} {op : Op} {ty : TypeId} {pos : String} {after : Array Edge} {g : Nat} {want : Bool} (hdet : detOk op = true) (hb : (acc.getD g ⟨.dead, []⟩).v = .imm (.bool (!want)))
    (h : snocE acc ⟨.undef, []⟩ fun acc' => amDraw P T l t m ep kk rest acc') :
    amDraw P T l t m ep kk (⟨dst, op, ty, pos, after, some (g, want)⟩ :: rest) acc := by
  rw [snocE_eq] at h
  unfold amDraw
  simp only [hdet, hb]
  exact ⟨fun e => (by cases want <;> cases e), fun _ => h⟩

theorem go_dundef {l rest : List Oper} {acc : List Eff} {kk : List Eff → Prop} {dst : Option Nat} {op : Op} {ty : TypeId} {pos : String} {after : Array Edge} {g : Nat} {want : Bool} (hdet : detOk op = true) (hb : (acc.getD g ⟨.dead, []⟩).v = .undef)
    (h : snocE acc ⟨.undef, []⟩ fun acc' => amDraw P T l t m ep kk rest acc') :
    amDraw P T l t m ep kk (⟨dst, op, ty, pos, after, some (g, want)⟩ :: rest) acc := by
  rw [snocE_eq] at h
  unfold amDraw
  simp only [hdet, hb]
  exact h

theorem go_dsplit {l rest : List Oper} {acc : List Eff} {kk : List Eff → Prop} {dst : Option Nat} {op : Op} {ty : TypeId} {pos : String} {after : Array Edge} {g : Nat} {want b : Bool} (hdet : detOk op = true) (hb : (acc.getD g ⟨.dead, []⟩).v = .imm (.bool b))
    (h1 : b = want → amOp P T (evT (tSee l ⟨dst, op, ty, pos, after, some (g, want)⟩ acc t)) (mSee l (evT (tSee l ⟨dst, op, ty, pos, after, some (g, want)⟩ acc t)) ep ⟨dst, op, ty, pos, after, some (g, want)⟩ acc m) ep ⟨dst, op, ty, pos, after, some (g, want)⟩ fun e => forceV e.v fun v => forceU e.up fun up => amDraw P T l t m ep kk rest (acc ++ [⟨v, up⟩]))
    (h2 : b = !want → amDraw P T l t m ep kk rest (acc ++ [⟨.undef, []⟩])) :
    amDraw P T l t m ep kk (⟨dst, op, ty, pos, after, some (g, want)⟩ :: rest) acc := by
  unfold amDraw
  simp only [hdet, hb]
  refine ⟨fun e => .inl ?_, h2⟩
  simpa only [forceV_eq, forceU_eq] using h1 e

theorem go_nilImm {tt : TypeId} {x : AV} {rows : List (List D)} {e : TypeId} {a1 b1 : Nat} {z1 : List D} {K : Eff → Prop} (hT : T tt = some ⟨.slice e, a1, b1, z1⟩) (hx : x = .imm (.list rows)) (h : ∀ b, (rows ≠ [] → b = false) → K ⟨.imm (.bool b), []⟩) : opNilCmp T m .eql tt x K := by
  subst hx
  unfold opNilCmp nilness
  simp only [hT]
  exact h

theorem go_skip {σ : S} (h : Q .normal σ) : amC P T .skip Q σ := h
theorem go_block {id : Nat} {c : Code} {σ : S} (h : amC P T c (blockQ id Q) σ) : amC P T (.block id c) Q σ := h
theorem go_exit {id : Nat} {σ : S} (h : Q (.exit id) σ) : amC P T (.exit id) Q σ := h
theorem go_ret {σ : S} (h : Q .ret σ) : amC P T .ret Q σ := fun _ _ _ β _ _ hs => ⟨σ, β, h, hs⟩
theorem go_true {c : Operand} {x y : Code} (hc : evT t c = .imm (.bool true)) (h : amC P T x Q ⟨t, m, ep, n, pm⟩) : amC P T (.cond c x y) Q ⟨t, m, ep, n, pm⟩ := by
  unfold amC
  simp only [ev_eq, hc]
  exact ⟨fun _ => h, fun e => by cases e⟩
theorem go_false {c : Operand} {x y : Code} (hc : evT t c = .imm (.bool false)) (h : amC P T y Q ⟨t, m, ep, n, pm⟩) : amC P T (.cond c x y) Q ⟨t, m, ep, n, pm⟩ := by
  unfold amC
  simp only [ev_eq, hc]
  exact ⟨fun e => (by cases e), fun _ => h⟩
theorem go_cond {c : Operand} {x y : Code} {b : Bool} (hc : evT t c = .imm (.bool b)) (h1 : b = true → amC P T x Q ⟨t, m, ep, n, pm⟩) (h2 : b = false → amC P T y Q ⟨t, m, ep, n, pm⟩) : amC P T (.cond c x y) Q ⟨t, m, ep, n, pm⟩ := by
  unfold amC
  simp only [ev_eq, hc]
  exact ⟨h1, h2⟩

/-- A loop's rounds, by what is so at its head. -/
def rounds {α : Type} (Inv : α → Prop) (μ : α → Nat) (F : α → S) : Nat → S → Prop := fun n σ' => ∃ x, Inv x ∧ n = μ x ∧ σ' = F x

theorem go_loop {α : Type} (Inv : α → Prop) (μ : α → Nat) (F : α → S) (x0 : α) {c : Code} {σ : S} (hi : Inv x0) (h0 : Ref σ (F x0)) (h : ∀ x, Inv x → amC P T c (loopQ (rounds Inv μ F) (μ x) Q) (F x)) : amC P T (.loop c) Q σ := by
  refine ⟨rounds Inv μ F, ⟨μ x0, F x0, h0, x0, hi, rfl, rfl⟩, ?_⟩
  rintro n' σ' ⟨x, hx, rfl, rfl⟩
  exact h x hx

theorem go_next {α : Type} {Inv : α → Prop} {μ : α → Nat} {F : α → S} (x' : α) {N : Nat} {σ : S} (hi : Inv x') (hl : μ x' < N) (hr : Ref σ (F x')) : ∃ n' σ1, n' < N ∧ Ref σ σ1 ∧ rounds Inv μ F n' σ1 :=
  ⟨μ x', F x', hl, hr, x', hi, rfl, rfl⟩

theorem le_of_ble {a b : Nat} (h : Nat.ble a b = true) : a ≤ b := Nat.le_of_ble_eq_true h

/-- A state without objects may be weakened. -/
theorem ref_st0 {σ : S} {n : Nat} {ts : List (Nat × AV)} (hn : σ.n = n) (ht : wT id (fun _ => none) σ.t ts) (hp : σ.pm = []) : Ref σ (st n ts [] []) := by
  refine ref_st id hn ht trivial ?_ (by rw [hp]; rfl) (by simp)
  simp

/-! ### Calls -/

def callChk (vs fz : List Nat) (gs : List (Option Nat)) : Bool := decide ((fz ++ gs.filterMap id).Nodup) && vs.all fun v => !(fz.contains v) && !(gs.contains (some v))

theorem callChk_at {vs fz : List Nat} {gs : List (Option Nat)} (h : callChk vs fz gs = true) : (fz ++ gs.filterMap id).Nodup ∧ ∀ v ∈ vs, v ∉ fz ∧ some v ∉ gs := by
  unfold callChk at h
  simp only [Bool.and_eq_true, decide_eq_true_eq, List.all_eq_true, Bool.not_eq_true', List.contains_eq_mem, decide_eq_false_iff_not] at h
  exact ⟨h.1, fun v hv => h.2 v hv⟩

def freshB (m : Nat → Option O) : List (Nat × O) → Bool
  | [] => true
  | (i, _) :: r => (m i).isNone && freshB m r

theorem freshB_at {m : Nat → Option O} : ∀ {l : List (Nat × O)}, freshB m l = true → freshAll m l
  | [], _ => trivial
  | (i, o) :: r, h => by
    simp only [freshB, Bool.and_eq_true, Option.isNone_iff_eq_none] at h
    exact ⟨h.1, freshB_at h.2⟩

theorem go_call {o : Oper} {f : FuncId} {args : List Nat → List AV} {K : Eff → Prop} (md : List Nat) {ins : List In} {out : Out} {vs fz : List Nat} {gs : List (Option Nat)} (hc : CallOk P f ins out)
    (ha : argsIn m md (args md) = some (ins, vs, fz, gs)) (hs : (out.sep || vs.isEmpty) = true) (hn : callChk vs fz gs = true) (hf : freshB m (resUp ep (o.dst.getD 0) 0 out.res) = true)
    (hk : K (callEff ep (o.dst.getD 0) fz gs out)) : opCall P m ep o f args K := by
  refine ⟨md, out, ?_⟩
  rw [ha]
  refine ⟨hc, ?_, callChk_at hn, freshB_at hf, hk⟩
  simpa using hs

/-! ### Results -/

theorem ret_go {fn : Func} {ins : List In} {out : Out} {σ : S} (ha : out.agg = false) (h : RetOk0 T fn ins out σ) : retQ T fn ins out .ret σ := by
  show RetOk T fn ins out σ
  unfold RetOk
  rw [ha]
  exact h

theorem ret_imm {fn : Func} {ins : List In} {rv : ResultVar} {d d' : D} {σ : S} (hr : fn.results.toList = [rv]) (hm : mutIdx ins = []) (hp : σ.pm = []) (hv : retAV T σ rv = .imm d') (hd : d' = d) (hg : d.gr' = true) :
    retQ T fn ins { res := [.imm d] } .ret σ := by
  subst hd
  refine ret_go rfl ?_
  refine ⟨?_, ?_, by rw [hp]; exact List.nodup_nil, by rw [hm, hp]; trivial⟩
  · rw [hr]
    simp only [List.map_cons, List.map_nil, hv]
    exact ⟨⟨rfl, fun _ => hg⟩, trivial⟩
  · rw [hr]
    simp only [List.map_cons, List.map_nil, hv, ownIds]
    exact List.nodup_nil

def RetIs (T : TypeId → Option TI) (σ : S) : List ResultVar → List D → Prop
  | [], [] => True
  | rv :: r, d :: ds => retAV T σ rv = .imm d ∧ RetIs T σ r ds
  | _, _ => False

theorem ret_imms {fn : Func} {ins : List In} {rvs : List ResultVar} {ds : List D} {σ : S} (hr : fn.results.toList = rvs) (hm : mutIdx ins = []) (hp : σ.pm = []) (h : RetIs T σ rvs ds) (hg : ds.all D.gr' = true) :
    retQ T fn ins { res := ds.map .imm } .ret σ := by
  refine ret_go rfl ?_
  have h1 : ∀ (rvs : List ResultVar) (ds : List D), RetIs T σ rvs ds → ds.all D.gr' = true → RetAll σ true (rvs.map (retAV T σ)) (ds.map .imm) ∧ ownIds (rvs.map (retAV T σ)) = [] := by
    intro rvs
    induction rvs with
    | nil => intro ds h _; cases ds with
      | nil => exact ⟨trivial, rfl⟩
      | cons d ds => exact h.elim
    | cons rv rvs ih =>
      intro ds h hg
      cases ds with
      | nil => exact h.elim
      | cons d ds =>
        simp only [List.all_cons, Bool.and_eq_true] at hg
        obtain ⟨q1, q2⟩ := ih ds h.2 hg.2
        simp only [List.map_cons, h.1]
        exact ⟨⟨⟨rfl, fun _ => hg.1⟩, q1⟩, q2⟩
  obtain ⟨q1, q2⟩ := h1 rvs ds h hg
  exact ⟨by rw [hr]; exact q1, by rw [hr, q2]; exact List.nodup_nil, by rw [hp]; exact List.nodup_nil, by rw [hm, hp]; trivial⟩

theorem ret_imm2 {fn : Func} {ins : List In} {r1 r2 : ResultVar} {a a' b b' : D} {σ : S} (hr : fn.results.toList = [r1, r2]) (hm : mutIdx ins = []) (hp : σ.pm = []) (h1 : retAV T σ r1 = .imm a') (h2 : retAV T σ r2 = .imm b')
    (ha : a' = a) (hb : b' = b) (hg : [a, b].all D.gr' = true) : retQ T fn ins { res := [.imm a, .imm b] } .ret σ := by
  subst ha hb
  exact ret_imms (ds := [a', b']) hr hm hp ⟨h1, h2, trivial⟩ hg

theorem ret_imm3 {fn : Func} {ins : List In} {r1 r2 r3 : ResultVar} {a a' b b' c c' : D} {σ : S} (hr : fn.results.toList = [r1, r2, r3]) (hm : mutIdx ins = []) (hp : σ.pm = []) (h1 : retAV T σ r1 = .imm a') (h2 : retAV T σ r2 = .imm b') (h3 : retAV T σ r3 = .imm c')
    (ha : a' = a) (hb : b' = b) (hc : c' = c) (hg : [a, b, c].all D.gr' = true) : retQ T fn ins { res := [.imm a, .imm b, .imm c] } .ret σ := by
  subst ha hb hc
  exact ret_imms (ds := [a', b', c']) hr hm hp ⟨h1, h2, h3, trivial⟩ hg

theorem ret_imm4 {fn : Func} {ins : List In} {r1 r2 r3 r4 : ResultVar} {a a' b b' c c' d d' : D} {σ : S} (hr : fn.results.toList = [r1, r2, r3, r4]) (hm : mutIdx ins = []) (hp : σ.pm = []) (h1 : retAV T σ r1 = .imm a') (h2 : retAV T σ r2 = .imm b') (h3 : retAV T σ r3 = .imm c')
    (h4 : retAV T σ r4 = .imm d') (ha : a' = a) (hb : b' = b) (hc : c' = c) (hd : d' = d) (hg : [a, b, c, d].all D.gr' = true) : retQ T fn ins { res := [.imm a, .imm b, .imm c, .imm d] } .ret σ := by
  subst ha hb hc hd
  exact ret_imms (ds := [a', b', c', d']) hr hm hp ⟨h1, h2, h3, h4, trivial⟩ hg

theorem ret_own {fn : Func} {ins : List In} {r : Nat} {rows : List (List D)} {id off len ty sz : Nat} {rows' : List (List D)} {σ : S} (hr : fn.results.toList = [.tmp r]) (hm : mutIdx ins = []) (hp : σ.pm = []) (hv : σ.t r = .own id off len)
    (hmm : σ.m id = some (.arr ty sz rows')) (hd : (rows'.drop off).take len = rows) (hg : ∀ x ∈ rows, x.all D.gr = true) :
    retQ T fn ins { res := [.imm (.list rows)] } .ret σ := by
  subst hd
  refine ret_go rfl ?_
  refine ⟨?_, ?_, by rw [hp]; exact List.nodup_nil, by rw [hm, hp]; trivial⟩
  · rw [hr]
    simp only [List.map_cons, List.map_nil, retAV, hv]
    refine ⟨?_, trivial⟩
    simp only [Ret1, hmm]
    exact ⟨trivial, fun _ => hg, by rw [hp]; simp⟩
  · rw [hr]
    simp only [List.map_cons, List.map_nil, retAV, hv, ownIds]
    simp

theorem ret_arr {fn : Func} {ins : List In} {r : Nat} {rows : List (List D)} {id off len ty sz : Nat} {rows' : List (List D)} {σ : S} (hr : fn.results.toList = [.tmp r]) (hm : mutIdx ins = []) (hp : σ.pm = []) (hv : σ.t r = .own id off len)
    (hmm : σ.m id = some (.arr ty sz rows')) (hd : (rows'.drop off).take len = rows) (hg : ∀ x ∈ rows, x.all D.gr = true) :
    retQ T fn ins { res := [.arr ty sz rows] } .ret σ := by
  subst hd
  refine ret_go rfl ?_
  refine ⟨?_, ?_, by rw [hp]; exact List.nodup_nil, by rw [hm, hp]; trivial⟩
  · rw [hr]
    simp only [List.map_cons, List.map_nil, retAV, hv]
    refine ⟨?_, trivial⟩
    simp only [Ret1, hmm]
    exact ⟨trivial, trivial, trivial, fun _ => hg, by rw [hp]; simp⟩
  · rw [hr]
    simp only [List.map_cons, List.map_nil, retAV, hv, ownIds]
    simp

theorem mutOk_imm {ins : List In} (h : ins.all (fun x => !x.isMut) = true) (out : Out) : MutOk ins out := by
  intro i o hi
  have h := List.all_eq_true.1 h
  unfold inM at hi
  split at hi
  · rename_i hx; have := h _ (List.mem_of_getElem? hx); cases this
  · rename_i hx; have := h _ (List.mem_of_getElem? hx); cases this
  · rename_i hx; have := h _ (List.mem_of_getElem? hx); cases this
  · cases hi

/-! ### Elements -/

theorem go_make {o : Oper} {d : Nat} {tt e : TypeId} {a1 b1 : Nat} {z1 : List D} {te : TI} {l c : AV} {kd kd' : IntKind} {i j : Int} {K : Eff → Prop} (ho : o.dst = some d) (hT : T tt = some ⟨.slice e, a1, b1, z1⟩) (hl : l = .imm (.int kd i)) (hc : c = .imm (.int kd' j)) (hE : T e = some te)
    (hb : Nat.ble te.bytes 65536 = true) (hz : Nat.blt 0 te.size = true) (hzz : Nat.beq te.zero.length te.size = true) (hf : m (nid ep d) = none) (h0 : 0 ≤ i) (h1 : i ≤ j) (h2 : j ≤ 2147483648)
    (hk : K ⟨.own (nid ep d) 0 i.toNat, [(nid ep d, .arr e te.size (List.replicate i.toNat te.zero))]⟩) : opMake T m ep o tt l c K := by
  subst hl hc
  unfold opMake
  simp only [ho, hT, hE]
  have hb' : (te.bytes : Int) ≤ 65536 := by have := Nat.le_of_ble_eq_true hb; omega
  refine ⟨h0, h1, ?_, by omega, Nat.le_of_ble_eq_true hz, Nat.eq_of_beq_eq_true hzz, hf, hk⟩
  have : (te.bytes : Int) * j ≤ 65536 * j := Int.mul_le_mul_of_nonneg_right hb' (by omega)
  omega

theorem go_makeN {o : Oper} {d : Nat} {tt e : TypeId} {a1 b1 : Nat} {z1 : List D} {te : TI} {l c : AV} {kd kd' : IntKind} {i : Nat} {j : Int} {K : Eff → Prop} (ho : o.dst = some d) (hT : T tt = some ⟨.slice e, a1, b1, z1⟩) (hl : l = .imm (.int kd (i : Nat))) (hc : c = .imm (.int kd' j)) (hE : T e = some te)
    (hb : Nat.ble te.bytes 65536 = true) (hz : Nat.blt 0 te.size = true) (hzz : Nat.beq te.zero.length te.size = true) (hf : m (nid ep d) = none) (h1 : i ≤ j) (h2 : j ≤ 2147483648)
    (hk : K ⟨.own (nid ep d) 0 i, [(nid ep d, .arr e te.size (List.replicate i te.zero))]⟩) : opMake T m ep o tt l c K :=
  go_make ho hT hl hc hE hb hz hzz hf (by omega) h1 h2 (by simpa using hk)

theorem go_storeBox {tt : TypeId} {K : Eff → Prop} {id off : Nat} {ty : TypeId} {cells vs : List AV} {ti : TI} {x v : AV} (hx : x = .box id off) (hm : m id = some (.box ty cells)) (hT : T tt = some ti)
    (hv : acells m v = some vs) (hl : Nat.beq vs.length ti.size = true) (hl' : Nat.ble (off + ti.size) cells.length = true) (h : K ⟨.undef, [(id, .box ty (setAt cells off vs))]⟩) : opStore T m tt x v K := by
  subst hx
  unfold opStore
  simp only [hT, hm, hv]
  exact ⟨Nat.eq_of_beq_eq_true hl, Nat.le_of_ble_eq_true hl', h⟩

theorem go_idxOwn {tt : TypeId} {K : Eff → Prop} {kd : IntKind} {i : Nat} {id len : Nat} {e ty : TypeId} {sz : Nat} {rows : List (List D)} {a1 b1 : Nat} {z1 : List D} {te : TI} {x y : AV} (hx : x = .own id 0 len) (hy : y = .imm (.int kd (i : Nat))) (hT : T tt = some ⟨.slice e, a1, b1, z1⟩) (hE : T e = some te)
    (hm : m id = some (.arr ty sz rows)) (hs : sz = te.size) (hi : i < len) (h : K ⟨.eptr id i 0, []⟩) : opIndexAddr T m tt x y K := by
  subst hx hy
  unfold opIndexAddr
  simp only [hT, hE, hm]
  refine ⟨by omega, by omega, hs, ?_⟩
  simpa using h

theorem go_storeRow {tt : TypeId} {K : Eff → Prop} {id i : Nat} {ty : TypeId} {sz : Nat} {rows rows' : List (List D)} {ti : TI} {x v : AV} {ds r : List D} (hx : x = .eptr id i 0) (hm : m id = some (.arr ty sz rows)) (hT : T tt = some ti)
    (hd : dcells m v = some (ds, [])) (hr : rows[i]? = some r) (hl : ds.length = ti.size) (hl' : r.length = ti.size) (hrows : rows.set i ds = rows') (h : K ⟨.undef, [(id, .arr ty sz rows')]⟩) : opStore T m tt x v K := by
  subst hx hrows
  unfold opStore
  simp only [hT, hm, hd, hr]
  refine ⟨hl, by omega, by simp, ?_⟩
  have : setAt r 0 ds = ds := by
    unfold setAt
    rw [Nat.zero_add, List.drop_eq_nil_of_le (by omega)]
    simp
  rw [this]
  exact h

theorem go_append {o : Oper} {d : Nat} {tt e ty ty2 : TypeId} {a1 b1 : Nat} {z1 : List D} {te : TI} {x y : AV} {id id2 len len2 sz sz2 : Nat} {rows rows2 : List (List D)} {K : Eff → Prop} (ho : o.dst = some d) (hT : T tt = some ⟨.slice e, a1, b1, z1⟩) (hx : x = .own id 0 len) (hE : T e = some te)
    (hm : m id = some (.arr ty sz rows)) (hte : ty = e) (hsz : sz = te.size) (hf : m (nid ep d) = none) (hy : y = .own id2 0 len2) (hm2 : m id2 = some (.arr ty2 sz2 rows2)) (hs2 : sz2 = te.size) (hne : Nat.beq id2 id = false)
    (hone : rows2.all (fun r => r.all D.one) = true) (hb : Nat.ble te.bytes 65536 = true) (hlen : len = rows.length) (hl2 : len2 = rows2.length) (hbound : len + len2 ≤ 1073741824)
    (hk : K ⟨.own (nid ep d) 0 (len + len2), [(id, .gone), (nid ep d, .arr e te.size (rows ++ rows2))]⟩) : opAppend T m ep o tt x y K := by
  subst hx hy hte hsz hlen hl2
  unfold opAppend
  simp only [ho, hT, hE, hm, hm2]
  have hb' : te.bytes ≤ 65536 := Nat.le_of_ble_eq_true hb
  have hmul : (rows.length + rows2.length) * te.bytes ≤ 1073741824 * 65536 := Nat.mul_le_mul hbound hb'
  have hneq : id2 ≠ id := fun h => by subst h; rw [Nat.beq_refl] at hne; cases hne
  refine ⟨trivial, trivial, by omega, hf, hs2, by omega, hneq, ?_, by omega, by omega, ?_⟩
  · intro r hr
    rw [List.drop_zero, List.take_length] at hr
    exact List.all_eq_true.1 hone r hr
  · rw [List.drop_zero, List.drop_zero, List.take_length]
    exact hk

/-- A slice that is filled row by row. -/
def fill {α : Type} (f : α → List D) (z : List D) (xs : List α) (i : Nat) : List (List D) := (xs.take i).map f ++ List.replicate (xs.length - i) z

theorem fill_0 {α : Type} (f : α → List D) (z : List D) (xs : List α) : List.replicate xs.length z = fill f z xs 0 := by simp [fill]
theorem fill_end {α : Type} (f : α → List D) (z : List D) (xs : List α) {i : Nat} (h : xs.length ≤ i) : fill f z xs i = xs.map f := by
  unfold fill
  rw [List.take_of_length_le h, Nat.sub_eq_zero_of_le h]
  simp
theorem fill_len {α : Type} (f : α → List D) (z : List D) (xs : List α) {i : Nat} (h : i ≤ xs.length) : (fill f z xs i).length = xs.length := by
  simp [fill]; omega
theorem fill_at {α : Type} (f : α → List D) (z : List D) {xs : List α} {i : Nat} {x : α} (h : xs[i]? = some x) : (fill f z xs i)[i]? = some z := by
  have hi := (List.getElem?_eq_some_iff.1 h).1
  unfold fill
  rw [List.getElem?_append_right (by simp; omega)]
  simp [List.getElem?_replicate]; omega
theorem fill_set {α : Type} (f : α → List D) (z : List D) {xs : List α} {i : Nat} {x : α} (h : xs[i]? = some x) : (fill f z xs i).set i (f x) = fill f z xs (i + 1) := by
  have hi := (List.getElem?_eq_some_iff.1 h).1
  unfold fill
  have hl : ((xs.take i).map f).length = i := by simp; omega
  rw [List.set_append_right _ _ (by omega), hl, Nat.sub_self]
  obtain ⟨k, hk⟩ : ∃ k, xs.length - i = k + 1 := ⟨xs.length - i - 1, by omega⟩
  rw [hk, List.replicate_succ, List.set_cons_zero, List.take_add_one, h, show xs.length - (i + 1) = k from by omega]
  simp

theorem row_at {α : Type} {xs : List α} {i : Nat} {x : α} (f : α → List D) (h : xs[i]? = some x) : (xs.map f)[((i : Nat) : Int).toNat]? = some (f x) := by
  simp [h]

theorem all_next {α : Type} {p : α → Bool} {xs : List α} {i : Nat} {x : α} (h : xs[i]? = some x) (ha : (xs.take i).all p = true) (hp : p x = true) : (xs.take (i + 1)).all p = true := by
  rw [List.take_add_one, h]
  simp only [List.all_append, ha, Option.toList_some, List.all_cons, hp, List.all_nil, Bool.and_self]

theorem all_end {α : Type} {p : α → Bool} {xs : List α} {i : Nat} (h : xs.length ≤ i) (ha : (xs.take i).all p = true) : xs.all p = true := by
  rwa [List.take_of_length_le h] at ha

theorem all_not {α : Type} {p : α → Bool} {xs : List α} {i : Nat} {x : α} (h : xs[i]? = some x) (hp : p x = false) : xs.all p = false := by
  cases ha : xs.all p with
  | false => rfl
  | true => rw [List.all_eq_true.1 ha x (List.mem_of_getElem? h)] at hp; cases hp

theorem lt_of_at {α : Type} {xs : List α} {i : Nat} {x : α} (h : xs[i]? = some x) : i < xs.length := (List.getElem?_eq_some_iff.1 h).1
theorem le_of_at {α : Type} {xs : List α} {i : Nat} (h : xs[i]? = none) : xs.length ≤ i := List.getElem?_eq_none_iff.1 h

theorem next_i {i : Nat} (h : (i : Int) < 4611686018427387904) : AV.imm (.int .i64 (IntKind.i64.wrap ((i : Int) + 1))) = .imm (.int .i64 ((i + 1 : Nat) : Int)) := by
  have : IntKind.i64.wrap ((i : Int) + 1) = ((i + 1 : Nat) : Int) := by simp only [IntKind.wrap, IntKind.bits, IntKind.signed]; simp; omega
  rw [this]

theorem go_pickT {c a b : AV} {K : Eff → Prop} (hc : c = .imm (.bool true)) (h : K ⟨a, []⟩) : opPick c a b K := by subst hc; exact ⟨fun _ => h, fun e => by cases e⟩
theorem go_pickF {c a b : AV} {K : Eff → Prop} (hc : c = .imm (.bool false)) (h : K ⟨b, []⟩) : opPick c a b K := by subst hc; exact ⟨fun e => (by cases e), fun _ => h⟩
theorem go_pick {c a b : AV} {K : Eff → Prop} {x : Bool} (hc : c = .imm (.bool x)) (h1 : x = true → K ⟨a, []⟩) (h2 : x = false → K ⟨b, []⟩) : opPick c a b K := by subst hc; exact ⟨h1, h2⟩

theorem go_idx {tt : TypeId} {K : Eff → Prop} {kd : IntKind} {i : Int} {rows : List (List D)} {e : TypeId} {r : List D} {a1 b1 : Nat} {z1 : List D} {te : TI} {x y : AV} (hx : x = .imm (.list rows)) (hy : y = .imm (.int kd i)) (hT : T tt = some ⟨.slice e, a1, b1, z1⟩) (hE : T e = some te)
    (h0 : 0 ≤ i) (hr : rows[i.toNat]? = some r) (hl : r.length = te.size) (h : K ⟨.imm (.ptr r), []⟩) : opIndexAddr T m tt x y K := by
  subst hx hy
  unfold opIndexAddr
  simp only [hT, hE]
  refine ⟨h0, ?_⟩
  rw [hr]
  exact ⟨hl, h⟩

end
end Go.Am


