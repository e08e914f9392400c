/- The abstract machine: a copy that a function makes of nested data is a region of its caller's. -/
import Derived.Test.YteoiohkdhdpkoaaAmC
namespace Go.Am
open Go

/-- A function that copies nested data it was lent to read: what it hands back is new memory, a region of the caller's. -/
theorem callOk_copy (ht : tabs = []) {P : Program} {f : FuncId} {d d' : D} (h : CallOk P f [.reg true d] { res := [.imm d'], muts := [.reg true], sep := false }) : CallOk P f [.imm d] { res := [.reg d'] } := by
  obtain ⟨hE, _, _, hC⟩ := h
  refine ⟨hE, by simp, mutOk_imm rfl _, ?_⟩
  intro w A locs β vs h hs
  have hl : locs = [] := List.eq_nil_of_length_eq_zero h.pm.1.symm
  subst hl
  have hA : ∀ b, Bl A β (inM [.imm d]) b → A b := by
    rintro b (hA | ⟨id, o, l, h1, _⟩)
    · exact hA
    · exfalso
      unfold inM at h1
      match id with
      | 0 => cases h1
      | n + 1 => cases h1
  have h0 : Rep w (Bl A β (inM [.imm d])) (vs.getD 0 Go.undef) d := h.slot 0
  let F : Nat → Prop := fun b => b < w.heap.size ∧ ¬ A b
  obtain ⟨ol, hol⟩ := regLoc_ex F w
  have hm1 : ∀ id o, inM [.reg true d] id = some o → id = 0 ∧ o = .reg true := fun id o hid => by
    match id with
    | 0 => injection hid with hid; exact ⟨rfl, hid.symm⟩
    | n + 1 => cases hid
  have hS1 : Sim w A [ol] (fun i => if i = 0 then ol else none) (inS [.reg true d] vs.size) ⟨vs, []⟩ w := by
    refine { size := rfl, defers := rfl, slot := ?_, ob := ?_, inj := ?_, new := ?_, fr := Fr.refl _ _ (tb_of_nil ht), lt := h.lt, pm := ?_ }
    · intro i
      match i with
      | 0 =>
        refine tv_mk (c := true) rfl ?_
        show RegRd ol _ _
        exact hol.rd h0 fun b hb hn => ⟨hb, fun ha => hn (.inl ha)⟩
      | n + 1 =>
        show vs.getD (n + 1) Go.undef = Go.undef
        have : vs.size ≤ n + 1 := by rw [hs]; simp
        simp [Array.getD, Nat.not_lt.2 this]
    · intro id o hid
      obtain ⟨rfl, rfl⟩ := hm1 id o hid
      exact hol.ob rfl (Nat.le_refl _) fun _ _ => rfl
    · intro id id' o o' l l' b h1 _ _ h2 _ _ _ _
      rw [(hm1 id o h1).1, (hm1 id' o' h2).1]
    · intro id o l h1 _ h3 b hb
      obtain ⟨rfl, rfl⟩ := hm1 id o h1
      have h3 : ol = some l := h3
      rw [h3] at hol
      have hF := hol.has.1 hb
      exact ⟨hF.1, hF.2, .inr ⟨l, by rw [h3]; simp, hb⟩⟩
    · refine ⟨rfl, fun i id hi => ?_⟩
      match i with
      | 0 => injection hi with hi; subst hi; exact ⟨rfl, _, rfl⟩
      | n + 1 => cases hi
  refine (hC w A [ol] _ vs hS1 hs).mono ?_
  rintro e w' ⟨vals, β', rfl, hS⟩
  have hβ0 : β' 0 = ol := by
    have := (hS.pm.2 0 0 rfl).1
    injection this with this
    exact this.symm
  have hsame : ∀ b, b < w.heap.size → w'.heap[b]? = w.heap[b]? := fun b hb => by
    by_cases hF : F b
    · rcases hS.ob 0 (.reg true) rfl with hn | ⟨l, r, h1, h2, h3, h4⟩
      · rw [hβ0] at hn
        rcases hol with ⟨_, hno⟩ | ⟨b0, _, e⟩
        · exact absurd hF (hno b)
        · rw [hn] at e; cases e
      · rw [hβ0] at h1
        rcases hol with ⟨e, _⟩ | ⟨b0, _, e⟩
        · rw [h1] at e; cases e
        · rw [h1] at e; injection e with e; subst e
          injection h2 with h2; subst h2
          rcases h4 b hF with h5 | ⟨h5, _⟩
          · exact h5
          · cases h5
    · refine hS.fr.blk b hb fun l hlm hh => hF ?_
      simp only [List.mem_singleton] at hlm
      rw [← hlm] at hol
      exact hol.has.1 hh
  have hslot : Rep w' (Bl (sepA w A [ol] false) β' (outM [.reg true d] { res := [.imm d'], muts := [.reg true], sep := false })) (vals.getD 0 Go.undef) d' := hS.slot 0
  have hnew : ∀ b, b < w.heap.size → Bl (sepA w A [ol] false) β' (outM [.reg true d] { res := [.imm d'], muts := [.reg true], sep := false }) b := fun b hb => by
    by_cases ha : A b
    · exact .inl (.inl ha)
    · have hF : F b := ⟨hb, ha⟩
      cases hol' : ol with
      | none =>
        rw [hol'] at hol
        rcases hol with ⟨_, hno⟩ | ⟨b0, _, e⟩
        · exact absurd hF (hno b)
        · cases e
      | some l =>
        rw [hol'] at hol
        exact .inr ⟨0, .reg true, l, rfl, rfl, by rw [hβ0, hol'], hol.has.2 hF⟩
  let F2 : Nat → Prop := fun b => w.heap.size ≤ b ∧ b < w'.heap.size
  obtain ⟨ol2, hol2⟩ := regLoc_ex F2 w'
  have hm2 : ∀ id o, outM [.imm d] { res := [.reg d'] } id = some o → id = 1000 ∧ o = .reg true := fun id o hid => by
    unfold outM at hid
    split at hid
    · match id with
      | 0 => cases hid
      | n + 1 => cases hid
    · rename_i h1000
      have : ∃ k, id = 1000 + k := ⟨id - 1000, by omega⟩
      obtain ⟨k, rfl⟩ := this
      rw [Nat.add_sub_cancel_left] at hid
      match k with
      | 0 => injection hid with hid; exact ⟨rfl, hid.symm⟩
      | n + 1 => cases hid
  refine ⟨vals, fun i => if i = 1000 then ol2 else none, rfl, ?_⟩
  refine { size := hS.size, defers := rfl, slot := ?_, ob := ?_, inj := ?_, new := ?_, fr := ⟨hS.fr.os, hS.fr.tape, hS.fr.output, hS.fr.size, fun b hb _ => hsame b hb, tb_of_nil ht, hS.fr.drawn⟩, lt := ?_, pm := ⟨rfl, fun i id hi => by cases hi⟩ }
  · intro i
    match i with
    | 0 =>
      refine tv_mk (c := true) rfl ?_
      show RegRd ol2 _ _
      exact hol2.rd hslot fun b hb hn => ⟨Nat.not_lt.1 fun hlt => hn (hnew b hlt), hb⟩
    | n + 1 => exact hS.slot (n + 1)
  · intro id o hid
    obtain ⟨rfl, rfl⟩ := hm2 id o hid
    exact hol2.ob rfl (Nat.le_refl _) fun _ _ => rfl
  · intro id id' o o' l l' b h1 _ _ h2 _ _ _ _
    rw [(hm2 id o h1).1, (hm2 id' o' h2).1]
  · intro id o l h1 _ h3 b hb
    obtain ⟨rfl, rfl⟩ := hm2 id o h1
    have h3 : ol2 = some l := h3
    rw [h3] at hol2
    have hF := hol2.has.1 hb
    refine ⟨hF.2, ?_, .inl hF.1⟩
    rintro (ha | ⟨_, hb2, _⟩)
    · have := h.lt b ha
      exact absurd hF.1 (Nat.not_le.2 this)
    · exact absurd hF.1 (Nat.not_le.2 hb2)
  · rintro b (ha | ⟨_, hb2, _⟩)
    · exact Nat.lt_of_lt_of_le (h.lt b ha) hS.fr.size
    · exact Nat.lt_of_lt_of_le hb2 hS.fr.size

section
variable {T : TypeId → Option TI} {m : Nat → Option O}

theorem mutOk_reg0 {c c' : Bool} {d : D} {ins : List In} {res : List R0} {sep : Bool} (h : ins.all (fun x => !x.isMut) = true) : MutOk (.reg c d :: ins) { res := res, muts := [.reg c'], sep := sep } := by
  intro i o hi
  cases i with
  | zero =>
    have hi : some (O.reg c) = some o := hi
    injection hi with hi
    subst hi
    exact ⟨.inr ⟨c', rfl⟩, .inr (.inr (.inr ⟨c', rfl⟩))⟩
  | succ i =>
    have h := List.all_eq_true.1 h
    unfold inM at hi
    split at hi
    · rename_i hx; have := h _ (List.mem_of_getElem? (by simpa using hx)); cases this
    · rename_i hx; have := h _ (List.mem_of_getElem? (by simpa using hx)); cases this
    · rename_i hx; have := h _ (List.mem_of_getElem? (by simpa using hx)); cases this
    · cases hi

/-- The one lent region comes back, with data. -/
theorem ret_regI {fn : Func} {c c' : Bool} {d0 : D} {ins : List In} {id : Nat} {rv : ResultVar} {d d' : D} {sep : Bool} {σ : S} (hr : fn.results.toList = [rv]) (hmi : mutIdx (.reg c d0 :: ins) = [0]) (hp : σ.pm = [id])
    (hv : retAV T σ rv = .imm d') (hd : d' = d) (hg : sep = true → d.gr' = true) (hm : σ.m id = some (.reg c')) :
    retQ T fn (.reg c d0 :: ins) { res := [.imm d], muts := [.reg c'], sep := sep } .ret σ := by
  refine ret_all (avs := [.imm d']) (by rw [hr]; simp only [List.map_cons, List.map_nil, hv]) ⟨⟨hd, hg⟩, trivial⟩ (by simp [ownIds]) (by rw [hp]; simp) ?_
  rw [hmi, hp]
  exact ⟨hm, fun _ => rfl, trivial⟩

theorem ret_regO {fn : Func} {c c' : Bool} {d0 : D} {ins : List In} {id id2 off len ty sz : Nat} {rv : ResultVar} {rows rows' : List (List D)} {σ : S} (hr : fn.results.toList = [rv]) (hmi : mutIdx (.reg c d0 :: ins) = [0]) (hp : σ.pm = [id])
    (hv : retAV T σ rv = .own id2 off len) (hm2 : σ.m id2 = some (.arr ty sz rows')) (hne : Nat.beq id2 id = false) (hd : (rows'.drop off).take len = rows) (hm : σ.m id = some (.reg c')) :
    retQ T fn (.reg c d0 :: ins) { res := [.imm (.list rows)], muts := [.reg c'], sep := false } .ret σ := by
  refine ret_all (avs := [.own id2 off len]) (by rw [hr]; simp only [List.map_cons, List.map_nil, hv]) ⟨?_, trivial⟩ (by simp [ownIds]) (by rw [hp]; simp) ?_
  · unfold Ret1
    simp only [hm2]
    refine ⟨by rw [hd], fun e => (by cases e), ?_⟩
    rw [hp]
    intro hmem
    simp only [List.mem_singleton] at hmem
    subst hmem
    simp at hne
  · rw [hmi, hp]
    exact ⟨hm, fun e => (by cases e), trivial⟩

theorem go_tvIdx {tt : TypeId} {K : Eff → Prop} {kd : IntKind} {i : Int} {id : Nat} {c : Bool} {rows : List (List D)} {e : TypeId} {r : List D} {a1 b1 : Nat} {z1 : List D} {te : TI} {x y : AV} (hx : x = .tv id (.list rows)) (hy : y = .imm (.int kd i)) (hT : T tt = some ⟨.slice e, a1, b1, z1⟩) (hE : T e = some te)
    (hm : m id = some (.reg c)) (h0 : 0 ≤ i) (hr : rows[i.toNat]? = some r) (hl : r.length = te.size) (h : K ⟨.tv id (.ptr r), []⟩) : opIndexAddr T m tt x y K := by
  subst hx hy
  unfold opIndexAddr
  simp only [hT, hE, hm, hr]
  exact ⟨h0, hl, h⟩

theorem go_tvStore {tt : TypeId} {K : Eff → Prop} {id : Nat} {c : Bool} {ti : TI} {x v : AV} {ds0 ds : List D} {d0 d1 : D} (hx : x = .tv id (.ptr ds0)) (hds : ds0 = d0 :: ds) (hv : v = .imm d1) (hm : m id = some (.reg c)) (hT : T tt = some ti) (hs : Nat.beq ti.size 1 = true) (hl : likeD d0 d1 = true)
    (h : K ⟨.undef, [(id, .reg false)]⟩) : opStore T m tt x v K := by
  subst hx hv hds
  unfold opStore
  simp only [hT, hm]
  exact ⟨Nat.eq_of_beq_eq_true hs, hl, h⟩
end
end Go.Am

