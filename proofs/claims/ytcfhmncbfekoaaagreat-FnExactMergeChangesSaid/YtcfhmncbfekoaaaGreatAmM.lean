/- The abstract machine: an array that came in to be written is handed back as a result. -/
import Derived.Test.YtcfhmncbfekoaaaGreatAmC
namespace Go.Am
open Go

/-- An array under a new name: its old one is given up, and one slot takes the new one. -/
theorem ref_move {σ : S} {p q r ty sz off len : Nat} {rows : List (List D)} (hp : σ.m p = some (.arr ty sz rows)) (hq : σ.m q = none) (hr : σ.t r = .own p off len) :
    Ref σ { σ with t := upd σ.t r (.own q off len), m := upd (upd σ.m p (some .gone)) q (some (.arr ty sz rows)) } := by
  intro w0 A locs β a w h
  have hpq : p ≠ q := fun e => by rw [e, hq] at hp; cases hp
  have hβ : ∀ id, id ≠ q → upd β q (β p) id = β id := fun id hid => upd_other _ _ hid
  have hβq : upd β q (β p) q = β p := upd_same _ _ _
  obtain ⟨m', hm'⟩ : ∃ m', m' = upd (upd σ.m p (some .gone)) q (some (.arr ty sz rows)) := ⟨_, rfl⟩
  have hmq : m' q = some (.arr ty sz rows) := by rw [hm']; exact upd_same _ _ _
  have hmp : m' p = some .gone := by rw [hm', upd_other _ _ hpq]; exact upd_same _ _ _
  have hmo : ∀ id, id ≠ p → id ≠ q → m' id = σ.m id := fun id h1 h2 => by rw [hm', upd_other _ _ h2, upd_other _ _ h1]
  rw [← hm']
  have back : ∀ id o l, m' id = some o → o.live = true → upd β q (β p) id = some l → ∃ id0 o0, σ.m id0 = some o0 ∧ o0.live = true ∧ β id0 = some l ∧ id0 = (if id = q then p else id) ∧ id ≠ p := by
    intro id o l h1 h2 h3
    by_cases hidq : id = q
    · subst hidq
      rw [hβq] at h3
      exact ⟨p, _, hp, rfl, h3, by rw [if_pos rfl], Ne.symm hpq⟩
    · rw [hβ id hidq] at h3
      by_cases hidp : id = p
      · subst hidp
        rw [hmp] at h1
        injection h1 with h1
        subst h1
        cases h2
      · rw [hmo id hidp hidq] at h1
        exact ⟨id, o, h1, h2, h3, by rw [if_neg hidq], hidp⟩
  have kk : Keeps w (Bl A β σ.m) w (Bl A (upd β q (β p)) m') := by
    refine ⟨Nat.le_refl _, fun _ _ _ => rfl, fun x _ hx hx' => hx ?_⟩
    rcases hx' with hA | ⟨id, o, l, h1, h2, h3, h4⟩
    · exact .inl hA
    · obtain ⟨id0, o0, q1, q2, q3, _⟩ := back id o l h1 h2 h3
      exact .inr ⟨id0, o0, l, q1, q2, q3, h4⟩
  have gg : Goes β σ.m (upd β q (β p)) m' := fun id o ho => by
    have hidq : id ≠ q := fun e => by rw [e, hq] at ho; cases ho
    by_cases hidp : id = p
    · subst hidp
      exact ⟨.gone, hmp, o.sub_gone, fun e => by cases e⟩
    · exact ⟨o, by rw [hmo id hidp hidq]; exact ho, o.sub_refl, fun _ => hβ _ hidq⟩
  have hob := h.ob p _ hp
  have hmv := h.move (β' := upd β q (β p)) (m' := m') kk gg (fun id o ho => hβ id fun e => by rw [e, hq] at ho; cases ho) (fun id o ho hl => by
      by_cases hidq : id = q
      · subst hidq
        rw [hmq] at ho
        injection ho with ho
        subst ho
        right
        obtain ⟨h0, hpos, hob⟩ := hob
        refine ⟨h0, hpos, ?_⟩
        rw [hβq]
        rcases hob with ⟨e1, e2⟩ | ⟨l, cs, e1, e2, e3, e4, e5, e6⟩
        · exact .inl ⟨e1, e2⟩
        · exact .inr ⟨l, cs, e1, e2, e3, e4, e5, fun j d hj => (e6 j d hj).keep kk⟩
      · by_cases hidp : id = p
        · subst hidp
          rw [hmp] at ho
          injection ho with ho
          subst ho
          cases hl
        · rw [hmo id hidp hidq] at ho
          exact .inl ⟨ho, fun _ _ _ _ => rfl⟩) (fun i j oi oj li lj b h1 h2 h3 h4 h5 h6 h7 h8 => by
      obtain ⟨i0, o0, q1, q2, q3, q4, q5⟩ := back i oi li h1 h2 h3
      obtain ⟨j0, o1, r1, r2, r3, r4, r5⟩ := back j oj lj h4 h5 h6
      have e := h.inj i0 j0 o0 o1 li lj b q1 q2 q3 r1 r2 r3 h7 h8
      rw [q4, r4] at e
      split at e <;> split at e
      · rename_i e1 e2; rw [e1, e2]
      · exact absurd e.symm r5
      · exact absurd e q5
      · exact e) (fun i oi li h1 h2 h3 => by
      obtain ⟨i0, o0, q1, q2, q3, _⟩ := back i oi li h1 h2 h3
      exact h.new i0 o0 li q1 q2 q3) h.fr
  refine ⟨upd β q (β p), { size := hmv.size, defers := hmv.defers, slot := fun i => ?_, ob := hmv.ob, inj := hmv.inj, new := hmv.new, fr := hmv.fr, lt := hmv.lt, pm := hmv.pm }⟩
  by_cases hi : i = r
  · subst hi
    have hs := h.slot i
    rw [hr] at hs
    simp only [AvRep, AvRep0, hp] at hs
    show AvRep w _ _ m' (upd σ.t i (.own q off len) i) _
    rw [upd_same]
    simp only [AvRep, AvRep0, hmq, hβq]
    exact hs
  · have := hmv.slot i
    show AvRep w _ _ m' (upd σ.t r (.own q off len) i) _
    rw [upd_other _ _ hi]
    exact this

/-- A walk may begin at a weaker state. -/
theorem callOk_ref {P : Program} {T : TypeId → Option TI} (hT : TOk P T) {f : FuncId} {fn : Func} {c : Code} (hf : P.funcs[f]? = some fn) (hn : (fn.name == "runtime.NumGoroutine") = false) (hb : fn.body = some c)
    {ins : List In} {out : Out} (hl : ins.length ≤ 1000) (hln : ins.length ≤ fn.ntmps) (hmo : MutOk ins out) {σ1 : S} (hR : Ref (inS ins fn.ntmps) σ1) (h : amC P T c (retQ T fn ins out) σ1) : CallOk P f ins out := by
  refine ⟨⟨fn, hf, hn, by rw [hb]; rfl⟩, hl, hmo, fun w A locs β vs hs hsz => ?_⟩
  have hs1 : Sim w A locs β (inS ins fn.ntmps) { tmps := vs ++ Array.replicate (fn.ntmps - vs.size) Go.undef, defers := [] } w := by
    refine { size := by simp [inS, hsz]; omega, defers := rfl, slot := fun i => ?_, ob := hs.ob, inj := hs.inj, new := hs.new, fr := hs.fr, lt := hs.lt, pm := hs.pm }
    by_cases hi : i < vs.size
    · have := hs.slot i
      have e : (vs ++ Array.replicate (fn.ntmps - vs.size) Go.undef).getD i Go.undef = vs.getD i Go.undef := by
        simp [Array.getD_eq_getD_getElem?, Array.getElem?_append_left hi]
      show AvRep w _ _ _ _ ((vs ++ Array.replicate (fn.ntmps - vs.size) Go.undef).getD i Go.undef)
      rw [e]; exact this
    · have e : (vs ++ Array.replicate (fn.ntmps - vs.size) Go.undef).getD i Go.undef = Go.undef := by
        simp only [Array.getD_eq_getD_getElem?, Array.getElem?_append_right (Nat.le_of_not_lt hi), Array.getElem?_replicate]
        split <;> rfl
      show AvRep w _ _ _ (inT ins i) ((vs ++ Array.replicate (fn.ntmps - vs.size) Go.undef).getD i Go.undef)
      rw [e]
      have : ins[i]? = none := List.getElem?_eq_none (by omega)
      unfold inT; rw [this]; rfl
  obtain ⟨β0, hs2⟩ := hR w A locs β _ w hs1
  refine calls_of_wp hf hb (wp_mono (amC_sound hT c _ _ h β0 _ w hs2) ?_)
  rintro e a' w' ⟨σ', β', h1, h2⟩
  obtain ⟨he, hret⟩ := retOk_of h1
  obtain ⟨vals, β2, h3, h4⟩ := ret_sim hT h2 hl (mutOk_box hmo) hret
  rcases he with rfl | rfl
  · exact ⟨h2.defers, _, h3, vals, β2, rfl, h4⟩
  · exact ⟨h2.defers, _, h3, vals, β2, rfl, h4⟩

/-- The state at the entry of a function of one array, which it may hand back: the array bears the name 1000. -/
def inMv (n ty sz : Nat) (rows : List (List D)) (ds : List D) : S :=
  { t := upd (inT (.arr ty sz rows :: ds.map .imm)) 0 (.own 1000 0 rows.length), m := upd (upd (fun i => match i with | 0 => some (.arr ty sz rows) | _ => none) 0 (some .gone)) 1000 (some (.arr ty sz rows)), ep := 0, n := n, pm := [0] }

theorem inM_arr (ty sz : Nat) (rows : List (List D)) (ds : List D) : inM (.arr ty sz rows :: ds.map .imm) = fun i => match i with | 0 => some (.arr ty sz rows) | _ => none := by
  funext i
  unfold inM
  match i with
  | 0 => rfl
  | i + 1 =>
    simp only [List.getElem?_cons_succ, List.getElem?_map]
    cases ds[i]? <;> rfl

theorem mutIdx_arr (ty sz : Nat) (rows : List (List D)) (ds : List D) : mutIdx (.arr ty sz rows :: ds.map .imm) = [0] := by
  unfold mutIdx
  rw [List.length_cons, List.range_succ_eq_map, List.filter_cons]
  have h0 : ((In.arr ty sz rows :: ds.map In.imm)[0]?.any In.isMut) = true := rfl
  rw [if_pos h0]
  congr 1
  rw [List.filter_eq_nil_iff]
  intro x hx
  obtain ⟨i, _, rfl⟩ := List.mem_map.1 hx
  simp only [List.getElem?_cons_succ, List.getElem?_map]
  cases ds[i]? <;> simp [In.isMut]

theorem ref_in (n ty sz : Nat) (rows : List (List D)) (ds : List D) : Ref (inS (.arr ty sz rows :: ds.map .imm) n) (inMv n ty sz rows ds) := by
  have e : inS (.arr ty sz rows :: ds.map .imm) n = { t := inT (.arr ty sz rows :: ds.map .imm), m := fun i => match i with | 0 => some (.arr ty sz rows) | _ => none, ep := 0, n := n, pm := [0] } := by
    unfold inS
    rw [inM_arr, mutIdx_arr]
  rw [e]
  exact ref_move (p := 0) (q := 1000) (r := 0) rfl rfl rfl

/-- The array comes back as the result. -/
theorem ret_moved {T : TypeId → Option TI} {fn : Func} {ty sz ty0 sz0 : Nat} {rows rows' rows0 : List (List D)} {ds : List D} {rv : ResultVar} {id off len : Nat} {σ : S} (hr : fn.results.toList = [rv]) (hp : σ.pm = [0]) (h0 : σ.m 0 = some .gone)
    (hv : retAV T σ rv = .own id off len) (hmm : σ.m id = some (.arr ty sz rows')) (hd : (rows'.drop off).take len = rows) (hg : ∀ x ∈ rows, x.all D.gr = true) :
    retQ T fn (.arr ty0 sz0 rows0 :: ds.map .imm) { res := [.arr ty sz rows], muts := [.gone] } .ret σ := by
  have hid : id ≠ 0 := fun e => by rw [e, h0] at hmm; cases hmm
  refine ret_all (avs := [.own id off len]) (by rw [hr]; simp only [List.map_cons, List.map_nil, hv]) ⟨ret1_arr hmm hd hg (by rw [hp]; simpa using hid), trivial⟩ (by simp [ownIds]) (by rw [hp]; simp) ?_
  rw [mutIdx_arr, hp]
  exact ⟨h0, fun _ => rfl, trivial⟩

/-- The address of a row of a part of an array. -/
theorem go_idxOwnO {T : TypeId → Option TI} {m : Nat → Option O} {tt : TypeId} {K : Eff → Prop} {kd : IntKind} {i : Int} {j id off len : Nat} {e ty : TypeId} {sz : Nat} {rows : List (List D)} {a1 b1 : Nat} {z1 : List D} {te : TI} {x y : AV} (hx : x = .own id off len) (hy : y = .imm (.int kd i)) (hij : i = (j : Nat)) (hT : T tt = some ⟨.slice e, a1, b1, z1⟩) (hE : T e = some te)
    (hm : m id = some (.arr ty sz rows)) (hs : sz = te.size) (hi : j < len) (h : K ⟨.eptr id (off + j) 0, []⟩) : opIndexAddr T m tt x y K := by
  subst hx hy hij
  unfold opIndexAddr
  simp only [hT, hE, hm]
  refine ⟨by omega, by omega, hs, ?_⟩
  simpa using h

/-- A part of an array is set to zero. -/
theorem go_clear {T : TypeId → Option TI} {m : Nat → Option O} {tt : TypeId} {K : Eff → Prop} {id off len : Nat} {e ty : TypeId} {sz : Nat} {rows : List (List D)} {a1 b1 : Nat} {z1 : List D} {te : TI} {x : AV} (hx : x = .own id off len) (hT : T tt = some ⟨.slice e, a1, b1, z1⟩) (hE : T e = some te)
    (hm : m id = some (.arr ty sz rows)) (hs : sz = te.size) (h : K ⟨.tup [], [(id, .arr ty sz (clearR rows off len te.zero))]⟩) : opClear T m tt x K := by
  subst hx
  unfold opClear
  simp only [hT, hE, hm]
  exact ⟨hs, h⟩

theorem mutOk_moved {ty sz : Nat} {rows : List (List D)} {ds : List D} {res : List R0} : MutOk (.arr ty sz rows :: ds.map .imm) { res := res, muts := [.gone] } := by
  intro i o hi
  rw [inM_arr] at hi
  match i with
  | 0 =>
    injection hi with hi
    subst hi
    exact ⟨O.sub_gone _, .inr (.inr (.inl rfl))⟩
  | i + 1 => cases hi

end Go.Am

