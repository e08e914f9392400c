/- The abstract machine, part 33: rules for slices of slices and of strings, with bounds that are not literals. -/
import Derived.Test.YtnjojepeilgikaaAm30
namespace Go.Am
open Go

section
variable {P : Program} {T : TypeId → Option TI} {t : Nat → AV} {m : Nat → Option O} {ep n : Nat} {pm : List Nat}

theorem go_sliceTo {tt e : TypeId} {K : Eff → Prop} {kd : IntKind} {id len k : Nat} {ty sz : Nat} {rows : List (List D)} {a1 b1 : Nat} {z1 : List D} {te : TI} {x h : AV} (hx : x = .own id 0 len) (hT : T tt = some ⟨.slice e, a1, b1, z1⟩) (hE : T e = some te)
    (hm : m id = some (.arr ty sz rows)) (hs : sz = te.size) (hh : h = .imm (.int kd (k : Nat))) (hk : k ≤ len) (hK : K ⟨.own id 0 k, []⟩) : opSlice T m tt x none (some h) none K := by
  subst hx hh
  unfold opSlice
  refine ⟨rfl, ?_⟩
  simp only [hT, hE, hm]
  refine ⟨hs, ?_⟩
  simp only [bnd]
  refine ⟨by omega, by omega, by omega, ?_⟩
  simpa using hK

theorem go_sliceFrom {tt e : TypeId} {K : Eff → Prop} {kd : IntKind} {id len k : Nat} {ty sz : Nat} {rows : List (List D)} {a1 b1 : Nat} {z1 : List D} {te : TI} {x h : AV} (hx : x = .own id 0 len) (hT : T tt = some ⟨.slice e, a1, b1, z1⟩) (hE : T e = some te)
    (hm : m id = some (.arr ty sz rows)) (hs : sz = te.size) (hh : h = .imm (.int kd (k : Nat))) (hk : k ≤ len) (hK : K ⟨.own id k (len - k), []⟩) : opSlice T m tt x (some h) none none K := by
  subst hx hh
  unfold opSlice
  refine ⟨rfl, ?_⟩
  simp only [hT, hE, hm]
  refine ⟨hs, ?_⟩
  simp only [bnd]
  refine ⟨by omega, by omega, by omega, ?_⟩
  simpa using hK

theorem go_sliceToI {tt e : TypeId} {K : Eff → Prop} {kd : IntKind} {k : Nat} {rows : List (List D)} {a1 b1 : Nat} {z1 : List D} {te : TI} {x h : AV} (hx : x = .imm (.list rows)) (hT : T tt = some ⟨.slice e, a1, b1, z1⟩) (hE : T e = some te)
    (hs : ∀ r ∈ rows, r.length = te.size) (hh : h = .imm (.int kd (k : Nat))) (hk : k ≤ rows.length) (hK : K ⟨.imm (.list (rows.take k)), []⟩) : opSlice T m tt x none (some h) none K := by
  subst hx hh
  unfold opSlice
  refine ⟨rfl, ?_⟩
  simp only [hT, hE]
  refine ⟨hs, ?_⟩
  simp only [bnd]
  refine ⟨by omega, by omega, by omega, ?_⟩
  simpa using hK

theorem go_sliceFromI {tt e : TypeId} {K : Eff → Prop} {kd : IntKind} {k : Nat} {rows : List (List D)} {a1 b1 : Nat} {z1 : List D} {te : TI} {x h : AV} (hx : x = .imm (.list rows)) (hT : T tt = some ⟨.slice e, a1, b1, z1⟩) (hE : T e = some te)
    (hs : ∀ r ∈ rows, r.length = te.size) (hh : h = .imm (.int kd (k : Nat))) (hk : k ≤ rows.length) (hK : K ⟨.imm (.list (rows.drop k)), []⟩) : opSlice T m tt x (some h) none none K := by
  subst hx hh
  unfold opSlice
  refine ⟨rfl, ?_⟩
  simp only [hT, hE]
  refine ⟨hs, ?_⟩
  simp only [bnd]
  refine ⟨by omega, by omega, by omega, ?_⟩
  have : ((rows.drop k).take (rows.length - k)) = rows.drop k := List.take_of_length_le (by simp)
  simpa [this] using hK

/-- A part of a string. -/
theorem go_sliceStr {tt : TypeId} {K : Eff → Prop} {kd kd' : IntKind} {i j : Nat} {s : ByteArray} {a1 b1 : Nat} {z1 : List D} {x l h : AV} (hx : x = .imm (.str s)) (hT : T tt = some ⟨.str, a1, b1, z1⟩)
    (hl : l = .imm (.int kd (i : Nat))) (hh : h = .imm (.int kd' (j : Nat))) (hi : i ≤ j) (hj : j ≤ s.size) (hK : K ⟨.imm (.str (s.extract i j)), []⟩) : opSlice T m tt x (some l) (some h) none K := by
  subst hx hl hh
  unfold opSlice
  refine ⟨rfl, ?_⟩
  simp only [hT, bnd]
  refine ⟨by omega, by omega, by omega, ?_⟩
  simpa using hK
theorem go_sliceStrTo {tt : TypeId} {K : Eff → Prop} {kd' : IntKind} {j : Nat} {s : ByteArray} {a1 b1 : Nat} {z1 : List D} {x h : AV} (hx : x = .imm (.str s)) (hT : T tt = some ⟨.str, a1, b1, z1⟩)
    (hh : h = .imm (.int kd' (j : Nat))) (hj : j ≤ s.size) (hK : K ⟨.imm (.str (s.extract 0 j)), []⟩) : opSlice T m tt x none (some h) none K := by
  subst hx hh
  unfold opSlice
  refine ⟨rfl, ?_⟩
  simp only [hT, bnd]
  refine ⟨by omega, by omega, by omega, ?_⟩
  simpa using hK
theorem go_sliceStrFrom {tt : TypeId} {K : Eff → Prop} {kd : IntKind} {i : Nat} {s : ByteArray} {a1 b1 : Nat} {z1 : List D} {x l : AV} (hx : x = .imm (.str s)) (hT : T tt = some ⟨.str, a1, b1, z1⟩)
    (hl : l = .imm (.int kd (i : Nat))) (hi : i ≤ s.size) (hK : K ⟨.imm (.str (s.extract i s.size)), []⟩) : opSlice T m tt x (some l) none none K := by
  subst hx hl
  unfold opSlice
  refine ⟨rfl, ?_⟩
  simp only [hT, bnd]
  refine ⟨by omega, by omega, by omega, ?_⟩
  simpa using hK

/-- append of a part of another array of this call's own. -/
theorem go_appSl {o : Oper} {d : Nat} {tt e ty ty2 : TypeId} {a1 b1 : Nat} {z1 : List D} {te : TI} {x y : AV} {id id2 len off2 len2 sz sz2 : Nat} {rows rows2 rr : List (List D)} {K : Eff → Prop} (ho : o.dst = some d) (hT : T tt = some ⟨.slice e, a1, b1, z1⟩) (hx : x = .own id 0 len) (hE : T e = some te)
    (hm : m id = some (.arr ty sz rows)) (hte : ty = e) (hsz : sz = te.size) (hf : m (nid ep d) = none) (hy : y = .own id2 off2 len2) (hm2 : m id2 = some (.arr ty2 sz2 rows2)) (hs2 : sz2 = te.size) (hne : Nat.beq id2 id = false)
    (hl2 : off2 + len2 ≤ rows2.length) (hrr : (rows2.drop off2).take len2 = rr) (hone : ∀ r ∈ rr, r.all D.one = true) (hb : Nat.ble te.bytes 65536 = true) (hlen : len = rows.length) (hbound : len + len2 ≤ 1073741824)
    (hk : K ⟨.own (nid ep d) 0 (len + len2), [(id, .gone), (nid ep d, .arr e te.size (rows ++ rr))]⟩) : opAppend T m ep o tt x y K := by
  subst hx hy hte hsz hlen hrr
  unfold opAppend
  simp only [ho, hT, hE, hm, hm2]
  have hb' : te.bytes ≤ 65536 := Nat.le_of_ble_eq_true hb
  have hmul : (rows.length + len2) * te.bytes ≤ 1073741824 * 65536 := Nat.mul_le_mul hbound hb'
  have hneq : id2 ≠ id := fun h => by subst h; rw [Nat.beq_refl] at hne; cases hne
  refine ⟨trivial, trivial, by omega, hf, hs2, hl2, hneq, hone, by omega, by omega, ?_⟩
  rw [List.drop_zero]
  exact hk

theorem go_idxOwnI {tt : TypeId} {K : Eff → Prop} {kd : IntKind} {i : Int} {j id len : Nat} {e ty : TypeId} {sz : Nat} {rows : List (List D)} {a1 b1 : Nat} {z1 : List D} {te : TI} {x y : AV} (hx : x = .own id 0 len) (hy : y = .imm (.int kd i)) (hij : i = (j : Nat)) (hT : T tt = some ⟨.slice e, a1, b1, z1⟩) (hE : T e = some te)
    (hm : m id = some (.arr ty sz rows)) (hs : sz = te.size) (hi : j < len) (h : K ⟨.eptr id j 0, []⟩) : opIndexAddr T m tt x y K := by
  subst hij
  exact go_idxOwn hx hy hT hE hm hs hi h

def setE : List Eff → Nat → Eff → (List Eff → Prop) → Prop
  | [], _, _, K => K []
  | _ :: as, 0, e, K => K (e :: as)
  | a :: as, g + 1, e, K => setE as g e fun l => K (a :: l)
theorem setE_eq : ∀ (acc : List Eff) (g : Nat) (e : Eff) (K : List Eff → Prop), setE acc g e K = K (acc.set g e)
  | [], _, _, _ => rfl
  | _ :: _, 0, _, _ => rfl
  | a :: as, g + 1, e, K => by unfold setE; exact setE_eq as g e _

/-- A guard that is no literal: both ways. -/
theorem go_dsplit2 {l : List Oper} {rest : List Oper} {acc : List Eff} {kk : List Eff → Prop} {dst : Option Nat} {op : Op} {ty : TypeId} {pos : String} {after : Array Edge} {g : Nat} {want b : Bool} (hb : acc.getD g ⟨.dead, []⟩ = ⟨.imm (.bool b), []⟩)
    (h1 : b = true → setE acc g ⟨.imm (.bool true), []⟩ fun acc' => amDraw P T l t m ep kk (⟨dst, op, ty, pos, after, some (g, want)⟩ :: rest) acc')
    (h2 : b = false → setE acc g ⟨.imm (.bool false), []⟩ fun acc' => amDraw P T l t m ep kk (⟨dst, op, ty, pos, after, some (g, want)⟩ :: rest) acc') :
    amDraw P T l t m ep kk (⟨dst, op, ty, pos, after, some (g, want)⟩ :: rest) acc := by
  have hself : acc.set g ⟨.imm (.bool b), []⟩ = acc := by
    have hg : g < acc.length := by
      rcases Nat.lt_or_ge g acc.length with h | h
      · exact h
      · rw [List.getD_eq_getElem?_getD, List.getElem?_eq_none h] at hb
        simp at hb
    rw [List.getD_eq_getElem?_getD, List.getElem?_eq_getElem hg, Option.getD_some] at hb
    rw [← hb]
    exact List.set_getElem_self hg
  cases b with
  | true => have := h1 rfl; rw [setE_eq, hself] at this; exact this
  | false => have := h2 rfl; rw [setE_eq, hself] at this; exact this

/-- The one lent array comes back, with two data. -/
theorem ret_mut2 {fn : Func} {ty sz : Nat} {rows rows' : List (List D)} {ins : List In} {id : Nat} {r1 r2 : ResultVar} {a a' b b' : D} {σ : S} (hr : fn.results.toList = [r1, r2]) (hmi : mutIdx (.arr ty sz rows :: ins) = [0]) (hp : σ.pm = [id])
    (hv1 : retAV T σ r1 = .imm a') (hv2 : retAV T σ r2 = .imm b') (ha : a' = a) (hb : b' = b) (hg : [a, b].all D.gr' = true) (hm : σ.m id = some (.arr ty sz rows')) (hgr : ∀ x ∈ rows', x.all D.gr = true) :
    retQ T fn (.arr ty sz rows :: ins) { res := [.imm a, .imm b], muts := [.arr ty sz rows'] } .ret σ := by
  simp only [List.all_cons, List.all_nil, Bool.and_true, Bool.and_eq_true] at hg
  refine ret_all (avs := [.imm a', .imm b']) (by rw [hr]; simp only [List.map_cons, List.map_nil, hv1, hv2]) ⟨ret1_imm ha hg.1, ret1_imm hb hg.2, trivial⟩ (by simp [ownIds]) (by rw [hp]; simp) ?_
  rw [hmi, hp]
  refine ⟨hm, fun _ => ?_, trivial⟩
  show (rows'.all fun r => r.all D.gr) = true
  exact List.all_eq_true.2 hgr

end
end Go.Am
