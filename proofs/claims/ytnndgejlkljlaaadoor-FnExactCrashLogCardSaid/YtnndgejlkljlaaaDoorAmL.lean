/- The abstract machine, part 41: flat cells of a call's own (a string's bytes in a slice): indexed, loaded, stored, turned into a string. -/
import Derived.Test.YtnndgejlkljlaaaDoorAmC
namespace Go.Am
open Go
set_option maxRecDepth 100000

section
variable {T : TypeId → Option TI} {m : Nat → Option O}

theorem go_idxCel {tt : TypeId} {K : Eff → Prop} {kd : IntKind} {i : Int} (j : Nat) {id len : Nat} {e : TypeId} {sz : Nat} {rows : List (List D)} {a1 b1 : Nat} {z1 : List D} {te : TI} {x y : AV} (hx : x = .own id 0 len) (hy : y = .imm (.int kd i)) (hij : i = (j : Nat)) (hT : T tt = some ⟨.slice e, a1, b1, z1⟩) (hE : T e = some te)
    (hm : m id = some (.cel sz rows)) (hs : sz = te.size) (hl : j < len) (h : K ⟨.eptr id j 0, []⟩) : opIndexAddr T m tt x y K := by
  subst hx hy hij
  unfold opIndexAddr
  simp only [hT, hE, hm]
  refine ⟨by omega, by omega, hs, ?_⟩
  rw [Nat.zero_add]; exact h

theorem go_loadCel {tt : TypeId} {K : Eff → Prop} {id i off : Nat} {sz : Nat} {rows : List (List D)} {ti : TI} {x : AV} (d : D) {r : List D} (hx : x = .eptr id i off) (hm : m id = some (.cel sz rows)) (hT : T tt = some ti) (ha : ti.agg = false)
    (hr : rows[i]? = some r) (hd : r[off]? = some d) (h : K ⟨.imm d, []⟩) : opLoad T m tt x K := by
  subst hx
  unfold opLoad
  simp only [hT, hm, hr, hd]
  exact ⟨ha, h⟩

theorem go_storeCel {tt : TypeId} {K : Eff → Prop} {id i off : Nat} {sz : Nat} {rows : List (List D)} (rows' : List (List D)) {ti : TI} {x v : AV} {d : D} {r : List D} (hx : x = .eptr id i off) (hv : v = .imm d) (hd : d.one = true) (hm : m id = some (.cel sz rows)) (hT : T tt = some ti) (hsz : ti.size = 1)
    (hr : rows[i]? = some r) (ho : off < r.length) (he : rows' = rows.set i (r.set off d)) (h : K ⟨.undef, [(id, .cel sz rows')]⟩) : opStore T m tt x v K := by
  subst hx hv he
  unfold opStore
  have hc : dcells m (.imm d) = some ([d], []) := by cases d <;> first | rfl | (simp only [D.one] at hd; exact absurd hd (by decide)) | (unfold dcells; simp only [hd, if_true])
  simp only [hT, hm, hc, hr]
  exact ⟨trivial, hd, hsz, ho, h⟩

theorem go_strCel {src dst e : TypeId} {K : Eff → Prop} {ep : Nat} {o : Oper} {id off len : Nat} {sz : Nat} {rows : List (List D)} (l : List Int) {x : AV} {a1 b1 a2 b2 a3 b3 : Nat} {z1 z2 z3 : List D} (hx : x = .own id off len) (hs : T src = some ⟨.slice e, a1, b1, z1⟩) (ht : T dst = some ⟨.str, a2, b2, z2⟩) (hE : T e = some ⟨.int .u8, a3, b3, z3⟩)
    (hm : m id = some (.cel sz rows)) (hl : rowsB ((rows.drop off).take len) = some l) (h : K ⟨.imm (.str (bytesOf l)), []⟩) : opConvB T m ep o src dst x K := by
  subst hx
  unfold opConvB
  simp only [hs, ht, hE, hm, hl]
  exact h

theorem go_bytes {src dst e : TypeId} {K : Eff → Prop} {ep d : Nat} {o : Oper} {s : ByteArray} {x : AV} {a1 b1 a2 b2 a3 b3 : Nat} {z1 z2 z3 : List D} (hx : x = .imm (.str s)) (hs : T src = some ⟨.str, a1, b1, z1⟩) (ht : T dst = some ⟨.slice e, a2, b2, z2⟩) (hE : T e = some ⟨.int .u8, a3, b3, z3⟩)
    (ho : o.dst = some d) (hf : m (nid ep d) = none) (h : K ⟨.own (nid ep d) 0 s.size, [(nid ep d, .cel 1 (strRows s))]⟩) : opConvB T m ep o src dst x K := by
  subst hx
  unfold opConvB
  simp only [hs, ht, hE, ho]
  exact ⟨hf, h⟩

end

theorem bytesOf_go : ∀ (l : List Int) (r : List UInt8), l.foldl (fun (r : ByteArray) n => r.push (UInt8.ofNat n.toNat)) (ofL r) = ofL (r ++ l.map fun n => UInt8.ofNat n.toNat)
  | [], r => by simp
  | n :: l, r => by
    rw [List.foldl_cons]
    have : (ofL r).push (UInt8.ofNat n.toNat) = ofL (r ++ [UInt8.ofNat n.toNat]) := by
      unfold ofL ByteArray.push; simp
    rw [this, bytesOf_go l]
    simp
theorem bytesOf_ofL (l : List Int) : bytesOf l = ofL (l.map fun n => UInt8.ofNat n.toNat) := by
  exact bytesOf_go l []

theorem rowsB_rows : ∀ (l : List Int), rowsB (l.map fun n => [.int .u8 n]) = some l
  | [] => rfl
  | n :: l => by simp only [List.map_cons, rowsB, rowsB_rows l]; rfl

theorem strRows_ofL (l : List UInt8) : strRows (ofL l) = l.map fun b => [.int .u8 b.toNat] := rfl

end Go.Am

