/- The abstract machine, part E: structs compared, bytes made a string. -/
import Derived.Test.YtjebblagiiajaaaAm15
import Derived.Laws.StructEq
import Derived.Laws.BytesString
namespace Go.Am
open Go

def dEq : D → D → Option Bool
  | .int k a, .int k' b => if k = k' then some (decide (a = b)) else none
  | .bool a, .bool b => some (a == b)
  | .str a, .str b => some (a == b)
  | _, _ => none

def dsEq : List D → List D → Option Bool
  | [], [] => some true
  | d :: r, d' :: r' => match dEq d d', dsEq r r' with | some a, some b => some (a && b) | _, _ => none
  | _, _ => none

def fieldFits (P : Program) (t : TypeId) (d : D) : Bool :=
  match P.underlying t, d with
  | some (.int k), .int k' _ => decide (k = k')
  | some .bool, .bool _ => true
  | some .string, .str _ => true
  | _, _ => false

def fieldsFit (P : Program) : List Field → Nat → List D → List D → Bool
  | [], _, [], [] => true
  | f :: fs, i, d :: ds, d' :: ds' => Nat.beq f.offset i && (f.name != "_") && fieldFits P f.type d && fieldFits P f.type d' && (P.info? f.type).isSome && fieldsFit P fs (i + 1) ds ds'
  | _, _, _, _ => false

def eqChk (P : Program) (t : TypeId) (ds ds' : List D) : Bool :=
  match P.underlying t with
  | some (.struct fs) => fieldsFit P fs.toList 0 ds ds' && !P.stoodInHeld t && !P.eqGuardType P.depth t
  | _ => false

/-- Structs of plain parts, one part a cell, compared. -/
def opAggEq (P : Program) (op : BinOp) (t : TypeId) (ds ds' : List D) (K : Eff → Prop) : Prop :=
  eqChk P t ds ds' = true ∧
  match dsEq ds ds' with
  | some b => (match op with | .eql => K ⟨.imm (.bool b), []⟩ | .neq => K ⟨.imm (.bool (!b)), []⟩ | _ => False)
  | none => False

def rowsB : List (List D) → Option (List Int)
  | [] => some []
  | [.int .u8 n] :: r => (rowsB r).map (n :: ·)
  | _ => none

def bytesOf (l : List Int) : ByteArray := l.foldl (fun r n => r.push (UInt8.ofNat n.toNat)) ByteArray.empty

def opConvB (T : TypeId → Option TI) (m : Nat → Option O) (src dst : TypeId) (x : AV) (K : Eff → Prop) : Prop :=
  match T src, T dst with
  | some ⟨.slice e, _, _, _⟩, some ⟨.str, _, _, _⟩ =>
    match T e with
    | some ⟨.int .u8, _, _, _⟩ =>
      match x with
      | .imm (.list rows) => match rowsB rows with | some l => K ⟨.imm (.str (bytesOf l)), []⟩ | none => False
      | .own id off len => match m id with | some (.arr _ _ rows) => (match rowsB ((rows.drop off).take len) with | some l => K ⟨.imm (.str (bytesOf l)), []⟩ | none => False) | _ => False
      | _ => False
    | _ => False
  | _, _ => opConv T src dst x K

theorem fits_int {P : Program} {t : TypeId} {k : IntKind} {a : Int} (h : fieldFits P t (.int k a) = true) : P.underlying t = some (.int k) := by
  unfold fieldFits at h
  cases hu : P.underlying t with
  | none => simp [hu] at h
  | some d => cases d <;> simp [hu] at h; rw [h]
theorem fits_bool {P : Program} {t : TypeId} {a : Bool} (h : fieldFits P t (.bool a) = true) : P.underlying t = some .bool := by
  unfold fieldFits at h
  cases hu : P.underlying t with
  | none => simp [hu] at h
  | some d => cases d <;> simp [hu] at h; rfl
theorem fits_str {P : Program} {t : TypeId} {a : ByteArray} (h : fieldFits P t (.str a) = true) : P.underlying t = some .string := by
  unfold fieldFits at h
  cases hu : P.underlying t with
  | none => simp [hu] at h
  | some d => cases d <;> simp [hu] at h; rfl

theorem dEq_run {P : Program} {w : World} {B : Nat → Prop} {t : TypeId} {d d' : D} {v v' : Value} {b : Bool} (n : Nat) (h : fieldFits P t d = true) (h' : fieldFits P t d' = true) (hv : Rep w B v d) (hv' : Rep w B v' d') (he : dEq d d' = some b) :
    (Op.equalIn (n + 1) t v v').run P w = .ok b w := by
  unfold dEq at he
  split at he
  · split at he
    · rename_i hk
      subst hk
      injection he with he
      rw [rep_int hv, rep_int hv', run_equalIn_int w n t _ _ _ _ (fits_int h), ← he]
      congr 1
    · cases he
  · injection he with he
    rw [rep_bool hv, rep_bool hv', run_equalIn_bool' w n t _ _ (fits_bool h), ← he]
  · injection he with he
    rw [rep_str hv, rep_str hv', run_equalIn_string w n t _ _ (fits_str h), ← he, beq_toListBytes]
  · cases he

theorem fits_agg {P : Program} {t : TypeId} {d : D} (h : fieldFits P t d = true) : aggB P t = some false := by
  unfold aggB
  cases d with
  | int k a => rw [fits_int h]
  | bool a => rw [fits_bool h]
  | str a => rw [fits_str h]
  | _ => unfold fieldFits at h; cases hu : P.underlying t with
    | none => simp [hu] at h
    | some d => cases d <;> simp [hu] at h

theorem dsEq_run {P : Program} {w : World} {B : Nat → Prop} {n : Nat} {xs ys : Array Value} : ∀ (fs : List Field) (i : Nat) (ds ds' : List D) (b : Bool), fieldsFit P fs i ds ds' = true → dsEq ds ds' = some b →
    i + ds.length = xs.size → i + ds'.length = ys.size →
    (∀ (j : Nat) (d : D), ds[j]? = some d → Rep w B (xs.getD (i + j) Go.undef) d) → (∀ (j : Nat) (d : D), ds'[j]? = some d → Rep w B (ys.getD (i + j) Go.undef) d) → (Op.eqFields (n + 1) xs ys fs).run P w = .ok b w
  | [], i, [], [], b, _, he, _, _, _, _ => by
    simp only [dsEq] at he
    injection he with he
    subst he
    simp [Op.eqFields]
  | [], i, [], _ :: _, b, h, _, _, _, _, _ => by simp [fieldsFit] at h
  | [], i, _ :: _, _, b, h, _, _, _, _, _ => by simp [fieldsFit] at h
  | f :: fs, i, [], ds', b, h, _, _, _, _, _ => by simp [fieldsFit] at h
  | f :: fs, i, d :: ds, [], b, h, _, _, _, _, _ => by simp [fieldsFit] at h
  | f :: fs, i, d :: ds, d' :: ds', b, h, he, hl, hl', hr, hr' => by
    simp only [fieldsFit, Bool.and_eq_true] at h
    obtain ⟨⟨⟨⟨⟨h1, h2⟩, h3⟩, h4⟩, h5⟩, h6⟩ := h
    have ho : f.offset = i := Nat.eq_of_beq_eq_true h1
    have hn : f.name ≠ "_" := by simpa using h2
    simp only [dsEq] at he
    split at he
    · rename_i a c ha hc
      injection he with he
      subst he
      obtain ⟨info, hi⟩ := Option.isSome_iff_exists.1 h5
      simp only [List.length_cons] at hl hl'
      have q1 : f.offset < xs.size := by omega
      have q2 : f.offset < ys.size := by omega
      have p1 := run_part (P := P) xs f.offset info.size false (by rw [hi]; rfl) (fits_agg h3) (fun _ => q1) w
      have p2 := run_part (P := P) ys f.offset info.size false (by rw [hi]; rfl) (fits_agg h3) (fun _ => q2) w
      simp only [Bool.false_eq_true, if_false] at p1 p2
      rw [ho] at p1 p2
      have e1 := dEq_run n h3 h4 (hr 0 d rfl) (hr' 0 d' rfl) ha
      have ih := dsEq_run (w := w) (B := B) (xs := xs) (ys := ys) (n := n) fs (i + 1) ds ds' c h6 hc (by omega) (by omega) (fun j dd hj => by rw [Nat.add_assoc, Nat.add_comm 1 j]; exact hr (j + 1) dd (by simpa using hj)) (fun j dd hj => by rw [Nat.add_assoc, Nat.add_comm 1 j]; exact hr' (j + 1) dd (by simpa using hj))
      simp only [Nat.add_zero] at e1
      simp only [Op.eqFields, hn, ne_eq, not_false_eq_true, if_true, Sem.run_bind, p1, p2, Result.andThen_ok, ho, e1]
      cases a
      · simp
      · simpa using ih
    · cases he

section
variable {P : Program} {T : TypeId → Option TI} (hT : TOk P T) {w0 w : World} {A : Nat → Prop} {locs : List (Option Loc)} {β : Nat → Option Loc} {σ : S} {a : Act}
variable (h : Sim w0 A locs β σ a w) {o : Oper} (hd : ∀ d, o.dst = some d → d < σ.n) {K : Eff → Prop} {m' : Nat → Option O} (hm : ∀ id ob, m' id = some ob → σ.m id = some ob)

include h hd in
theorem good_aggEq {op : BinOp} {t t' : TypeId} {x y : Operand} {ds ds' : List D} (ho : o.op = .binOp op t x y t') (e1 : σ.ev x = .imm (.agg ds)) (e2 : σ.ev y = .imm (.agg ds')) (hk : opAggEq P op t ds ds' K) : Good P w0 A locs σ a w o K := by
  obtain ⟨hc, hk⟩ := hk
  unfold eqChk at hc
  split at hc
  · rename_i fs hu
    simp only [Bool.and_eq_true, Bool.not_eq_true'] at hc
    obtain ⟨⟨hc, hs⟩, hg⟩ := hc
    obtain ⟨vs, hv, hvs, hvr⟩ := rep_agg (h.imm e1)
    obtain ⟨vs', hv', hvs', hvr'⟩ := rep_agg (h.imm e2)
    have hfs : P.fieldsOf t = fs := by simp [Program.fieldsOf, hu]
    split at hk
    · rename_i b hb
      have hrun : (Op.equalIn 10000 t (.agg vs) (.agg vs')).run P w = .ok b w := by
        rw [show (10000 : Nat) = 9999 + 1 from rfl, run_equalIn_struct w 9999 t vs vs' (by rw [hfs]; exact hu) hs, hfs]
        exact dsEq_run (n := 9998) fs.toList 0 ds ds' b hc hb (by omega) (by omega) (fun j d hj => by rw [Nat.zero_add]; exact hvr j d hj) (fun j d hj => by rw [Nat.zero_add]; exact hvr' j d hj)
      split at hk
      · refine h.val hd hk (v := .bool b) ?_ (.bool _)
        unfold execOp
        simp only [ho, hv, hv', Sem.run_bind, run_eqGuard_agg w .eql t x y vs vs' hg, Result.andThen_ok, run_eql_struct, hrun, Sem.run_pure]
      · refine h.val hd hk (v := .bool (!b)) ?_ (.bool _)
        unfold execOp
        simp only [ho, hv, hv', Sem.run_bind, run_eqGuard_agg w .neq t x y vs vs' hg, Result.andThen_ok, run_neq_struct, hrun, Sem.run_pure]
      · exact hk.elim
    · exact hk.elim
  · cases hc

theorem rowsB_at : ∀ (rows : List (List D)) (l : List Int), rowsB rows = some l → rows.length = l.length ∧ (∀ r ∈ rows, r.length = 1) ∧ rows.flatten = l.map (D.int .u8)
  | [], l, h => by simp [rowsB] at h; subst h; exact ⟨rfl, by simp, rfl⟩
  | r :: rows, l, h => by
    unfold rowsB at h
    split at h
    · rename_i e; cases e
    · rename_i n rr e
      injection e with e1 e2
      subst e1 e2
      simp only [Option.map_eq_some_iff] at h
      obtain ⟨l', h1, rfl⟩ := h
      obtain ⟨q1, q2, q3⟩ := rowsB_at rows l' h1
      refine ⟨by simp [q1], ?_, by simp [q3]⟩
      intro x hx
      rcases List.mem_cons.1 hx with rfl | hx
      · rfl
      · exact q2 x hx
    · cases h

theorem run_string_of {P : Program} {w : World} {B : Nat → Prop} {v : Value} {rows : List (List D)} {l : List Int} (hr : Rep w B v (.list rows)) (hb : rowsB rows = some l) : (Conv.bytesToString v).run P w = .ok (.string (bytesOf l)) w := by
  obtain ⟨q1, q2, q3⟩ := rowsB_at rows l hb
  obtain ⟨ad, n, c, rfl, rfl, hx⟩ := rep_list hr
  by_cases h0 : rows.length = 0
  · have hl : l = [] := List.eq_nil_of_length_eq_zero (by omega)
    subst hl
    rw [h0]
    cases ad with
    | none => simp [Conv.bytesToString, bytesOf]
    | some b =>
      have := run_bytesToString (P := P) w b 0 c [] (by rw [run_loadCells w b 0 (fun _ => Go.undef) (fun j hj => by omega)]; rfl)
      exact this
  · obtain ⟨b, sz, g, rfl, _, _, _, _, _, hcell, hrep⟩ := hx (by omega)
    refine run_bytesToString (P := P) w b _ c l ?_
    have hcell' : ∀ j, j < rows.length → w.cell? (b.add j) = some (g j) := by
      intro j hj
      exact hcell j (.int .u8 (l[j]'(by omega))) (by rw [q3]; simp)
    rw [run_loadCells w b rows.length g hcell']
    congr 2
    apply List.ext_getElem
    · simp [q1]
    · intro j h1 h2
      have hj : j < rows.length := by simpa using h1
      have hv := rep_int (hrep j (.int .u8 (l[j]'(by omega))) (by rw [q3]; simp))
      simp [hv]

include hT h hd hm in
theorem good_convB {src dst : TypeId} {x : Operand} (ho : o.op = .convert src dst x) (hk : opConvB T m' src dst (σ.ev x) K) : Good P w0 A locs σ a w o K := by
  unfold opConvB at hk
  split at hk
  · rename_i e _ _ _ _ _ _ hs ht
    have hus := hT.slice hs rfl
    have hud := hT.str ht rfl
    split at hk
    · rename_i hte
      have hue := hT.int hte rfl
      have key : ∀ v l, a.eval x = v → (∃ ad n c, v = .slice ad n c) → (Conv.bytesToString v).run P w = .ok (.string (bytesOf l)) w → (execOp a.eval o).run P w = .ok (.value (.string (bytesOf l))) w := by
        rintro v l hv ⟨ad, n, c, rfl⟩ hr
        cases ad <;> simp [execOp, ho, hv, convert, run_underlying hus, run_underlying hud, run_underlying hue, hr]
      split at hk
      · rename_i rows e1
        split at hk
        · rename_i l hl
          have hr := h.imm e1
          obtain ⟨ad, n, c, hv, _⟩ := rep_list hr
          exact h.val hd hk (key _ _ hv ⟨_, _, _, rfl⟩ (by rw [← hv]; exact run_string_of hr hl)) (.str _)
        · exact hk.elim
      · rename_i id off len e1
        split at hk
        · rename_i ty sz rows hmm
          split at hk
          · rename_i l hl
            have hx := h.ev x
            rw [e1] at hx
            have hr := own_view h (hm _ _ hmm) (B' := fun _ => False) hx (fun _ _ _ hf => hf) (fun _ _ hf => hf)
            obtain ⟨ad, n, c, hv, _⟩ := rep_list hr
            exact h.val hd hk (key _ _ hv ⟨_, _, _, rfl⟩ (by rw [← hv]; exact run_string_of hr hl)) (.str _)
          · exact hk.elim
        · exact hk.elim
      · exact hk.elim
    · exact hk.elim
  · exact good_conv hT h hd ho hk

end
end Go.Am
