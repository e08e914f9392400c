/- A change told in words: plain facts. -/
import Derived.Test.YtcfhmncbfekoaaaGreatDoorV2
import Derived.Test.YtcfhmncbfekoaaaGreatDoorV8
import Derived.Test.YtcfhmncbfekoaaaGreatDoorT3
import Derived.Test.YtcfhmncbfekoaaaGreatDoorKD
namespace Go.Proofs.YtcfhmncbfekoaaaGreatDoor
open Go Go.Am

theorem idxF_spec {α : Type} {p : α → Bool} {xs : List α} (h : 0 ≤ idxF p xs) : ∃ (i : Nat) (x : α), idxF p xs = i ∧ xs[i]? = some x ∧ p x = true := by
  unfold idxF at h ⊢
  split at h
  · rename_i ha
    rw [if_pos ha]
    have hlt : xs.findIdx p < xs.length := List.findIdx_lt_length_of_exists (List.any_eq_true.1 ha)
    exact ⟨_, _, rfl, List.getElem?_eq_getElem hlt, List.findIdx_getElem⟩
  · omega
theorem tripAt_of {t : Timetable} (h : ttOk t = true) {j : Nat} {x : Trip} (hx : t.trips[j]? = some x) : tripAtS t j x = true := by
  unfold ttOk tripsOk at h
  simp only [Bool.and_eq_true] at h
  have := h.2.2
  rw [trips_eq] at this
  exact allI_iff.1 this j x hx

/-- What is so of a trip that stands in a valid timetable. -/
structure TGood (t : Timetable) (x : Trip) : Prop where
  lo : 1 ≤ x.id
  hi : x.id ≤ 999
  ln : ∃ l, 0 ≤ x.line ∧ t.net.lines[x.line.toNat]? = some l
  st : 0 ≤ x.start ∧ x.start ≤ 1799
theorem tgood {t : Timetable} (h : ttOk t = true) {x : Trip} (hx : x ∈ t.trips) : TGood t x := by
  obtain ⟨j, hj⟩ := List.getElem?_of_mem hx
  have h1 := tripAt_of h hj
  unfold tripAtS at h1
  simp only [Bool.and_eq_true] at h1
  obtain ⟨h0, l, h2, h3, _, _⟩ := line_at h1.2.1
  have hid := (inR_iff _ _ _).1 h1.1
  have hst := (inR_iff _ _ _).1 h1.2.2.1
  exact ⟨hid.1, hid.2, ⟨l, h0, h3⟩, hst⟩

/-- What is so of a change that can be applied alone. -/
structure CGood (t : Timetable) (c : Change) : Prop where
  kd : c.kind = 1 ∨ c.kind = 2 ∨ c.kind = 3
  tr : TGood t c.trip
  to : c.kind = 3 → 0 ≤ c.to ∧ c.to ≤ 1799
theorem net_tgood {t t' : Timetable} {x : Trip} (hn : t'.net = t.net) (h : TGood t' x) : TGood t x := ⟨h.lo, h.hi, by rw [← hn]; exact h.ln, h.st⟩
theorem cgood {t : Timetable} {c : Change} (h : ivOk t [c] = true) : CGood t c := by
  unfold ivOk at h
  simp only [Bool.and_eq_true] at h
  obtain ⟨hok, h2⟩ := h
  unfold apOk at h2
  cases ho : apO t [c] with
  | none => rw [ho] at h2; cases h2
  | some out =>
    rw [ho] at h2
    simp only at h2
    unfold apO at ho
    rw [if_neg (by simp)] at ho
    unfold foldC at ho
    split at ho
    · cases ho
    · cases hs : stepC t.trips c with
      | none => rw [hs] at ho; cases ho
      | some o =>
        rw [hs] at ho
        simp only [foldC] at ho
        injection ho with ho
        subst ho
        unfold stepC at hs
        split at hs
        · rename_i hk
          injection hs with hs
          have hx : c.trip ∈ o := by rw [← hs, mem_insT]; exact .inl rfl
          exact ⟨.inl hk.1, net_tgood (t' := ⟨t.net, o⟩) rfl (tgood h2 hx), fun e => by omega⟩
        · split at hs
          · rename_i hk
            have hx := placeT_pos.1 hk.2.2
            exact ⟨.inr (.inl hk.1), tgood hok hx, fun e => by omega⟩
          · split at hs
            · rename_i hk
              injection hs with hs
              have hx := placeT_pos.1 hk.2.2
              refine ⟨.inr (.inr hk.1), tgood hok hx, fun _ => ?_⟩
              obtain ⟨i, hi⟩ : ∃ i : Nat, placeT t.trips c.trip = i ∧ t.trips[i]? = some c.trip := by
                obtain ⟨i, x, h1, h3, h4⟩ := idxF_spec hk.2.2
                exact ⟨i, h1, by rw [h3, Trip.beq_iff.1 h4]⟩
              rw [hi.1, Int.toNat_natCast, setS_at hi.2] at hs
              have hm : (⟨c.trip.id, c.trip.line, c.to⟩ : Trip) ∈ o := by
                rw [← hs]
                refine List.mem_of_getElem? (i := i) ?_
                rw [List.getElem?_set_self (lt_of_at hi.2)]
              exact (tgood h2 hm).st
            · cases hs

def wordB (k : Int) : List UInt8 := if k = 1 then [97, 100, 100] else if k = 2 then [114, 101, 109, 111, 118, 101] else [109, 111, 118, 101]
def lnm (t : Timetable) (c : Change) : ByteArray := match t.net.lines[c.trip.line.toNat]? with | some l => l.name | none => .empty
def spB : ByteArray := ⟨#[32]⟩
def dcB (t : Timetable) (c : Change) : ByteArray := ofL (wordB c.kind) ++ spB ++ ofL (numT c.trip.id.toNat) ++ spB ++ lnm t c ++ spB ++ ofL (clockL c.trip.start.toNat)
def dcT (t : Timetable) (c : Change) : ByteArray := if c.kind = 3 then dcB t c ++ (⟨#[32, 116, 111, 32]⟩ ++ ofL (clockL c.to.toNat)) else dcB t c
def dcR (t : Timetable) (c : Change) : ByteArray := if ivOk t [c] then dcT t c else .empty
end Go.Proofs.YtcfhmncbfekoaaaGreatDoor

