/- The abstract machine, part 9: literals, append, function values. -/
import Derived.Test.YtjebblagiiajaaaAm8
namespace Go.Am
open Go

/-- A slice literal's parts, laid into rows. -/
def putRows (m : Nat → Option O) (sz : Nat) : List (Nat × AV) → List (List D) → List Nat → Option (List (List D) × List Nat)
  | [], rows, ks => some (rows, ks)
  | (i, av) :: r, rows, ks =>
    match dcells m av with
    | some (ds, ks') => if ds.length = sz ∧ i < rows.length ∧ (∀ k ∈ ks', k ∉ ks) then putRows m sz r (rows.set i ds) (ks ++ ks') else none
    | none => none

/-- A struct's parts, laid into its cells. -/
def putFields (m : Nat → Option O) (fs : List (Nat × Nat × Bool)) : List (Nat × AV) → List D → List Nat → Option (List D × List Nat)
  | [], cells, ks => some (cells, ks)
  | (i, av) :: r, cells, ks =>
    match fs[i]?, dcells m av with
    | some (o, n, _), some (ds, ks') => if ds.length = n ∧ o + n ≤ cells.length ∧ (∀ k ∈ ks', k ∉ ks) then putFields m fs r (setAt cells o ds) (ks ++ ks') else none
    | _, _ => none

def opBuildSlice (T : TypeId → Option TI) (m : Nat → Option O) (ep : Nat) (o : Oper) (t : TypeId) (len : Nat) (parts : List (Nat × AV)) (K : Eff → Prop) : Prop :=
  match o.dst, T t with
  | some d, some ⟨.slice e, _, _, _⟩ =>
    match T e with
    | some te => len * te.size ≤ 16777216 ∧ 0 < te.size ∧ te.zero.length = te.size ∧ m (nid ep d) = none ∧
      match putRows m te.size parts (List.replicate len te.zero) [] with
      | some (rows, ks) => K ⟨.own (nid ep d) 0 len, kills ks ++ [(nid ep d, .arr e te.size rows)]⟩
      | none => False
    | none => False
  | _, _ => False

def opBuild (T : TypeId → Option TI) (m : Nat → Option O) (t : TypeId) (parts : List (Nat × AV)) (K : Eff → Prop) : Prop :=
  match T t with
  | some ⟨.struct fs, _, _, zero⟩ =>
    match putFields m fs parts zero [] with
    | some (ds, ks) => K ⟨.imm (.agg ds), kills ks⟩
    | none => False
  | _ => False

def opAppend (T : TypeId → Option TI) (m : Nat → Option O) (ep : Nat) (o : Oper) (t : TypeId) (x y : AV) (K : Eff → Prop) : Prop :=
  match o.dst, T t, x with
  | some d, some ⟨.slice e, _, _, _⟩, .own id off len =>
    match T e, m id with
    | some te, some (.arr ty sz rows) =>
      ty = e ∧ sz = te.size ∧ off + len = rows.length ∧ m (nid ep d) = none ∧
      match y with
      | .imm (.list rows') => (∀ r ∈ rows', r.length = te.size ∧ r.all D.one = true) ∧ (len + rows'.length) * te.bytes ≤ 140737488355328 ∧ len + rows'.length ≤ 4611686018427387904 ∧
          K ⟨.own (nid ep d) 0 (len + rows'.length), [(id, .gone), (nid ep d, .arr e te.size (rows.drop off ++ rows'))]⟩
      | .own id2 off2 len2 =>
        match m id2 with
        | some (.arr _ sz2 rows2) => sz2 = te.size ∧ off2 + len2 ≤ rows2.length ∧ id2 ≠ id ∧ (∀ r ∈ (rows2.drop off2).take len2, r.all D.one = true) ∧ (len + len2) * te.bytes ≤ 140737488355328 ∧ len + len2 ≤ 4611686018427387904 ∧
            K ⟨.own (nid ep d) 0 (len + len2), [(id, .gone), (nid ep d, .arr e te.size (rows.drop off ++ (rows2.drop off2).take len2))]⟩
        | _ => False
      | _ => False
    | _, _ => False
  | _, _, _ => False

/-- Boxes alone. -/
def boxIds : List AV → Option (List Nat)
  | [] => some []
  | .box id 0 :: r => (boxIds r).map (id :: ·)
  | _ :: _ => none

def opFunc (fn : Fn) (first captured : List AV) (K : Eff → Prop) : Prop :=
  match fn, first with
  | .func f, [] =>
    match captured with
    | [] => K ⟨.imm (.fn f []), []⟩
    | _ => match boxIds captured with | some ids => K ⟨.clo f ids, []⟩ | none => False
  | _, _ => False

section
variable {P : Program} {T : TypeId → Option TI} (hT : TOk P T) {w0 w : World} {A : Nat → Prop} {locs : List (Option Loc)} {β : Nat → Option Loc} {σ : S} {a : Act}
variable (h : Sim w0 A locs β σ a w) {o : Oper} (hd : ∀ d, o.dst = some d → d < σ.n) {K : Eff → Prop} {m' : Nat → Option O} (hm : ∀ id ob, m' id = some ob → σ.m id = some ob)
variable (hn : ∀ d, o.dst = some d → m' (nid σ.ep d) = none → σ.m (nid σ.ep d) = none)

theorem boxIds_at : ∀ {l : List AV} {ids : List Nat}, boxIds l = some ids → l.length = ids.length ∧ ∀ (j id : Nat), ids[j]? = some id → l[j]? = some (.box id 0)
  | [], ids, hi => by simp [boxIds] at hi; subst hi; exact ⟨rfl, fun j d hj => by simp at hj⟩
  | .box id 0 :: r, ids, hi => by
    simp only [boxIds, Option.map_eq_some_iff] at hi
    obtain ⟨ids', h1, rfl⟩ := hi
    obtain ⟨h2, h3⟩ := boxIds_at h1
    refine ⟨by simp [h2], fun j d' hj => ?_⟩
    cases j with
    | zero => simp at hj; subst hj; rfl
    | succ j => simpa using h3 j d' (by simpa using hj)
  | .box id (n + 1) :: _, _, hi => by simp [boxIds] at hi
  | .dead :: _, _, hi => by simp [boxIds] at hi
  | .undef :: _, _, hi => by simp [boxIds] at hi
  | .imm _ :: _, _, hi => by simp [boxIds] at hi
  | .own _ _ _ :: _, _, hi => by simp [boxIds] at hi
  | .eptr _ _ _ :: _, _, hi => by simp [boxIds] at hi
  | .clo _ _ :: _, _, hi => by simp [boxIds] at hi
  | .tup _ :: _, _, hi => by simp [boxIds] at hi

include h hd in
theorem good_func {fn : Fn} {first captured : Array Operand} (ho : o.op = .makeFunc fn first captured) (hk : opFunc fn (first.toList.map σ.ev) (captured.toList.map σ.ev) K) : Good P w0 A locs σ a w o K := by
  unfold opFunc at hk
  split at hk
  · rename_i f hf
    have hf' : first = #[] := by
      cases first with
      | mk l => cases l with
        | nil => rfl
        | cons x l => simp at hf
    subst hf'
    split at hk
    · rename_i hc
      have hc' : captured = #[] := by
        cases captured with
        | mk l => cases l with
          | nil => rfl
          | cons x l => simp at hc
      subst hc'
      refine h.val hd hk (v := .func (.func f) #[] #[]) (by simp [execOp, ho, Instr.makeFunc]) (Rep.fn f #[] [] rfl fun j d hj => by simp at hj)
    · split at hk
      · rename_i ids hids
        obtain ⟨h1, h2⟩ := boxIds_at hids
        refine h.val hd hk (v := .func (.func f) #[] (captured.map a.eval)) (by simp [execOp, ho, Instr.makeFunc]) ?_
        refine ⟨captured.map a.eval, rfl, by simpa using h1, fun i id hi => ?_⟩
        have h3 := h2 i id hi
        simp only [List.getElem?_map, Option.map_eq_some_iff] at h3
        obtain ⟨x, hx, he⟩ := h3
        have hv := h.ev x
        rw [he] at hv
        have e1 : (captured.map a.eval).getD i Go.undef = a.eval x := by
          have : captured[i]? = some x := by simpa using hx
          simp [Array.getD_eq_getD_getElem?, this]
        rw [e1]; exact hv
      · exact hk.elim
  · exact hk.elim

theorem upm_kills_other (m : Nat → Option O) : ∀ (ks : List Nat) (i : Nat), i ∉ ks → upm m (kills ks) i = m i
  | [], _, _ => rfl
  | k :: ks, i, hi => by
    show upm (upd m k (some .gone)) (kills ks) i = m i
    rw [upm_kills_other _ ks i (by simp at hi; exact hi.2), upd_other _ _ (by simp at hi; exact hi.1)]

/-- The concrete filling of an array's cells by one part. -/
def fill1 (cells : Array Value) (off : Nat) (v : Value) : Array Value := v.cells.zipIdx.foldl (fun cs (x : Value × Nat) => cs.setIfInBounds (off + x.2) x.1) cells

theorem fold_set : ∀ (l : List Value) (k : Nat) (cs : Array Value) (off : Nat),
    ((l.zipIdx k).foldl (fun cs (x : Value × Nat) => cs.setIfInBounds (off + x.2) x.1) cs).size = cs.size ∧
    ∀ j, off + k + l.length ≤ cs.size → ((l.zipIdx k).foldl (fun cs (x : Value × Nat) => cs.setIfInBounds (off + x.2) x.1) cs).getD j Go.undef = if off + k ≤ j ∧ j < off + k + l.length then l.getD (j - (off + k)) Go.undef else cs.getD j Go.undef
  | [], k, cs, off => ⟨rfl, fun j _ => by simp; intro h1 h2; omega⟩
  | v :: l, k, cs, off => by
    obtain ⟨h1, h2⟩ := fold_set l (k + 1) (cs.setIfInBounds (off + k) v) off
    simp only [List.zipIdx_cons, List.foldl_cons]
    refine ⟨by rw [h1]; simp, fun j hj => ?_⟩
    simp only [List.length_cons] at hj
    rw [h2 j (by simp; omega)]
    by_cases h3 : j = off + k
    · subst h3
      rw [if_neg (by omega), if_pos (by simp)]
      rw [getD_put _ _ _ _ (by omega), if_pos rfl]
      simp
    · by_cases h4 : off + k ≤ j ∧ j < off + k + (l.length + 1)
      · rw [if_pos (by omega), if_pos (by simpa using h4)]
        have e1 : j - (off + k) = (j - (off + (k + 1))) + 1 := by omega
        rw [e1]; simp
      · rw [if_neg (by omega), if_neg (by simpa using h4), getD_put _ _ _ _ (by omega), if_neg h3]

theorem fill1_at (cells : Array Value) (off : Nat) (v : Value) (hl : off + v.cells.size ≤ cells.size) : (fill1 cells off v).size = cells.size ∧
    ∀ j, (fill1 cells off v).getD j Go.undef = if off ≤ j ∧ j < off + v.cells.size then v.cells.getD (j - off) Go.undef else cells.getD j Go.undef := by
  have h := fold_set v.cells.toList 0 cells off
  have e : fill1 cells off v = ((v.cells.toList.zipIdx 0).foldl (fun cs (x : Value × Nat) => cs.setIfInBounds (off + x.2) x.1) cells) := by
    unfold fill1
    rw [← Array.foldl_toList, Array.toList_zipIdx]
  rw [e]
  refine ⟨h.1, fun j => ?_⟩
  have := h.2 j (by simpa using hl)
  simp only [Nat.add_zero, Array.length_toList] at this
  rw [this]
  simp [Array.getD_eq_getD_getElem?, List.getD_eq_getElem?_getD]

theorem fill_cons (place : Nat → Option (Nat × Nat)) (cells : Array Value) (i : Nat) (v : Value) (rest : List (Nat × Value)) (off n : Nat) (hp : place i = some (off, n)) (hs : v.cells.size = n) (hl : off + n ≤ cells.size) :
    Instr.fill place cells ((i, v) :: rest) = Instr.fill place (fill1 cells off v) rest := by
  simp only [Instr.fill, hp]
  rw [if_neg (by simp [hs]; omega)]
  rfl

/-- The state behind some arrays given up, in which what was read as data is data. -/
theorem dcells_sub {m₁ m₂ : Nat → Option O} (hsub : ∀ id ob, m₁ id = some ob → m₂ id = some ob) {av : AV} {r : List D × List Nat} (hc : dcells m₁ av = some r) : dcells m₂ av = some r := by
  unfold dcells at hc ⊢
  split at hc <;> first
    | exact hc
    | (split at hc
       · rename_i hmm; rw [hsub _ _ hmm]; exact hc
       · cases hc)

theorem dcells_after {m : Nat → Option O} {ks : List Nat} {av : AV} {ds : List D} {ks' : List Nat} (hc : dcells m av = some (ds, ks')) (hks : ∀ k ∈ ks', k ∉ ks) : dcells (upm m (kills ks)) av = some (ds, ks') := by
  unfold dcells at hc ⊢
  split at hc
  · exact hc
  · exact hc
  · rename_i id off len
    split at hc
    · rename_i ty sz rows hmm
      have : ks' = [id] := by injection hc with hc; simp only [Prod.mk.injEq] at hc; exact hc.2.symm
      subst this
      rw [upm_kills_other _ _ _ (hks id (by simp)), hmm]
      exact hc
    · cases hc
  · cases hc

theorem kills_append (a b : List Nat) : kills (a ++ b) = kills a ++ kills b := by simp [kills]

include hm in
/-- A slice literal's cells. -/
theorem putRows_sim (sz : Nat) (len : Nat) (ρ : Operand → AV) (hρ : ρ = σ.ev) : ∀ (parts : List (Nat × Operand)) (rows : List (List D)) (ks : List Nat) (rows' : List (List D)) (ks' : List Nat) (cells : Array Value),
    putRows m' sz (parts.map fun x => (x.1, ρ x.2)) rows ks = some (rows', ks') →
    Sim w0 A locs β { σ with m := upm σ.m (kills ks) } a w → rows.length = len → (∀ r ∈ rows, r.length = sz) → cells.size = len * sz →
    (∀ (i q : Nat) (r : List D) (d : D), rows[i]? = some r → r[q]? = some d → Rep w (Bl A β (upm σ.m (kills ks))) (cells.getD (i * sz + q) Go.undef) d) →
    ∃ cells', Instr.fill (fun i => some (i * sz, sz)) cells (parts.map fun x => (x.1, a.eval x.2)) = some cells' ∧ Sim w0 A locs β { σ with m := upm σ.m (kills ks') } a w ∧ rows'.length = len ∧
      (∀ r ∈ rows', r.length = sz) ∧ cells'.size = len * sz ∧ (∀ (i q : Nat) (r : List D) (d : D), rows'[i]? = some r → r[q]? = some d → Rep w (Bl A β (upm σ.m (kills ks'))) (cells'.getD (i * sz + q) Go.undef) d) := by
  subst hρ
  intro parts
  induction parts with
  | nil =>
    intro rows ks rows' ks' cells hp hs hl hr hc hrep
    simp only [List.map_nil, putRows, Option.some.injEq, Prod.mk.injEq] at hp
    obtain ⟨rfl, rfl⟩ := hp
    exact ⟨cells, rfl, hs, hl, hr, hc, hrep⟩
  | cons x parts ih =>
    intro rows ks rows' ks' cells hp hs hl hr hc hrep
    obtain ⟨i, x⟩ := x
    simp only [List.map_cons, putRows] at hp
    split at hp
    · rename_i ds ks1 hdc
      split at hp
      · rename_i hcond
        obtain ⟨h1, h2, h3⟩ := hcond
        have hdc' : dcells (upm σ.m (kills ks)) (σ.ev x) = some (ds, ks1) := dcells_after (dcells_sub hm hdc) h3
        obtain ⟨σ2, hσ2, hs2, hvs, _, hvr, hkeep⟩ := dcells_sim hs (fun _ _ h => h) hdc' (hs.ev x)
        have hm2 : σ2.m = upm σ.m (kills (ks ++ ks1)) := by rw [hσ2, kills_append, upm_append]
        have hs2' : Sim w0 A locs β { σ with m := upm σ.m (kills (ks ++ ks1)) } a w := by rw [← hm2]; subst hσ2; exact hs2
        have kk : Keeps w (Bl A β (upm σ.m (kills ks))) w (Bl A β (upm σ.m (kills (ks ++ ks1)))) := by
          refine ⟨Nat.le_refl _, fun _ _ _ => rfl, fun b _ hB hB' => hB ?_⟩
          rcases hB' with hA | ⟨j, oj, lj, e1, e2, e3, e4⟩
          · exact .inl hA
          · refine .inr ⟨j, oj, lj, ?_, e2, e3, e4⟩
            rw [kills_append, upm_append] at e1
            by_cases hj : j ∈ ks1
            · exfalso
              have : ∀ (m : Nat → Option O) (ks : List Nat), j ∈ ks → upm m (kills ks) j = some .gone := by
                intro m ks
                induction ks generalizing m with
                | nil => intro hj; cases hj
                | cons k ks ihk =>
                  intro hj
                  by_cases hjk : j ∈ ks
                  · exact ihk _ hjk
                  · have : j = k := by simp at hj; exact hj.resolve_right hjk
                    subst this
                    show upm (upd m j (some .gone)) (kills ks) j = _
                    rw [upm_kills_other _ _ _ hjk, upd_same]
              rw [this _ _ hj] at e1
              injection e1 with e1; subst e1; simp [O.live] at e2
            · rw [upm_kills_other _ _ _ hj] at e1; exact e1
        have hi : i * sz + sz ≤ cells.size := by
          have : (i + 1) * sz ≤ len * sz := Nat.mul_le_mul_right _ (by omega)
          rw [Nat.succ_mul] at this
          omega
        obtain ⟨hf1, hf2⟩ := fill1_at cells (i * sz) (a.eval x) (by rw [hvs, h1]; exact hi)
        obtain ⟨cells', hfill, r⟩ := ih (rows.set i ds) (ks ++ ks1) rows' ks' (fill1 cells (i * sz) (a.eval x)) hp hs2' (by simpa using hl)
          (fun r' hr' => by
            rcases List.mem_or_eq_of_mem_set hr' with h5 | h5
            · exact hr r' h5
            · rw [h5, h1]) (by rw [hf1, hc]) (fun i' q r' d hi' hq => by
            have hqs : q < sz := by
              have : r'.length = sz := by
                rcases List.mem_or_eq_of_mem_set (List.mem_of_getElem? hi') with h5 | h5
                · exact hr r' h5
                · rw [h5, h1]
              have := (List.getElem?_eq_some_iff.1 hq).1
              omega
            rw [hf2, hvs, h1]
            by_cases hii : i' = i
            · subst hii
              rw [List.getElem?_set_self (by omega)] at hi'
              injection hi' with hi'
              subst hi'
              rw [if_pos (by omega), Nat.add_sub_cancel_left]
              have := hvr q d hq
              rw [hm2] at this
              exact this
            · rw [List.getElem?_set_ne (Ne.symm hii)] at hi'
              have hno : ¬ (i * sz ≤ i' * sz + q ∧ i' * sz + q < i * sz + sz) := by
                rcases Nat.lt_or_gt_of_ne hii with h6 | h6
                · have : (i' + 1) * sz ≤ i * sz := Nat.mul_le_mul_right _ (by omega)
                  rw [Nat.succ_mul] at this
                  omega
                · have : (i + 1) * sz ≤ i' * sz := Nat.mul_le_mul_right _ (by omega)
                  rw [Nat.succ_mul] at this
                  omega
              rw [if_neg hno]
              exact (hrep i' q r' d hi' hq).keep kk)
        exact ⟨cells', by rw [List.map_cons, fill_cons _ _ _ _ _ (i * sz) sz rfl (by rw [hvs, h1]) hi]; exact hfill, r⟩
      · cases hp
    · cases hp

end
end Go.Am
