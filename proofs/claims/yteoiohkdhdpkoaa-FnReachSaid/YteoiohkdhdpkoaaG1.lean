/- Rides: what the reference's rounds reach, in plain terms. -/
import Derived.Test.YteoiohkdhdpkoaaG0
namespace Go.Proofs.Yteoiohkdhdpkoaa
open Go Go.Am

def visS (k : Int) (p : List Int × Bool) (y : Int) : List Int × Bool :=
  (if p.2 && decide (oN p.1 y.toNat < 0) then p.1.set y.toNat k else p.1,
   p.2 || decide (oN (if p.2 && decide (oN p.1 y.toNat < 0) then p.1.set y.toNat k else p.1) y.toNat = IntKind.i64.wrap (k - 1)))
def linS (k : Int) (o : List Int) (l : Line) : List Int := (l.stops.foldl (visS k) (o, false)).1
def rndS (ls : List Line) (k : Int) (o : List Int) : List Int := ls.foldl (linS k) o
def spk (ls : List Line) (o : List Int) : Nat → List Int
  | 0 => o
  | k + 1 => rndS ls ((k + 1 : Nat) : Int) (spk ls o k)

/-- What a part of round k comes to. -/
structure Sq (ls : List Line) (k : Int) (a b : List Int) : Prop where
  len : b.length = a.length
  keep : ∀ y, 0 ≤ oN a y → oN b y = oN a y
  fresh : ∀ y, oN a y < 0 → 0 ≤ oN b y → oN b y = k ∧ ∃ x, oN a x = k - 1 ∧ Nx ls x y
theorem Sq.refl (ls : List Line) (k : Int) (a : List Int) : Sq ls k a a := ⟨rfl, fun _ _ => rfl, fun y h1 h2 => by omega⟩
theorem Sq.back {ls : List Line} {k : Int} {a b : List Int} (h : Sq ls k a b) (hk : 1 ≤ k) {x : Nat} (hx : oN b x = k - 1) : oN a x = k - 1 := by
  by_cases ha : 0 ≤ oN a x
  · rw [← h.keep x ha]; exact hx
  · have := (h.fresh x (by omega) (by omega)).1; omega
theorem Sq.trans {ls : List Line} {k : Int} {a b c : List Int} (hk : 1 ≤ k) (h1 : Sq ls k a b) (h2 : Sq ls k b c) : Sq ls k a c := by
  refine ⟨h2.len.trans h1.len, fun y hy => ?_, fun y hy hc => ?_⟩
  · have e := h1.keep y hy
    rw [h2.keep y (by omega), e]
  · by_cases hb : 0 ≤ oN b y
    · obtain ⟨e1, e2⟩ := h1.fresh y hy hb
      exact ⟨by rw [h2.keep y hb, e1], e2⟩
    · obtain ⟨e1, x, e2, e3⟩ := h2.fresh y (by omega) hc
      exact ⟨e1, x, h1.back hk e2, e3⟩
/-- A line, stop by stop. -/
theorem visS_st {ls : List Line} {l : Line} {k : Int} {a : List Int} (hl : l ∈ ls) (ho : LnOk a.length l) (hk : 1 ≤ k ∧ k ≤ 1000000) : ∀ {j : Nat}, j ≤ l.stops.length →
    Sq ls k a ((l.stops.take j).foldl (visS k) (a, false)).1 ∧
    (((l.stops.take j).foldl (visS k) (a, false)).2 = true ↔ ∃ i x, i < j ∧ l.stops[i]? = some ((x : Nat) : Int) ∧ oN a x = k - 1) ∧
    ∀ i i' x z : Nat, i < i' → i' < j → l.stops[i]? = some (x : Int) → oN a x = k - 1 → l.stops[i']? = some (z : Int) → 0 ≤ oN ((l.stops.take j).foldl (visS k) (a, false)).1 z
  | 0, _ => ⟨by rw [List.take_zero]; exact Sq.refl _ _ _, by simp, fun i i' x z h1 h2 => by omega⟩
  | j + 1, hj => by
    obtain ⟨h1, h2, h3⟩ := visS_st hl ho hk (j := j) (by omega)
    have hy : l.stops[j]? = some l.stops[j] := List.getElem?_eq_getElem (by omega)
    obtain ⟨⟨hy0, hyN⟩, _⟩ := ho _ _ hy
    generalize l.stops[j] = y at hy hy0 hyN
    rw [List.take_add_one, hy, List.foldl_append]
    generalize hp : (l.stops.take j).foldl (visS k) (a, false) = p at h1 h2 h3
    obtain ⟨o, on⟩ := p
    simp only at h1 h2 h3
    have hw : IntKind.i64.wrap (k - 1) = k - 1 := wrap_small (by omega) (by omega)
    obtain ⟨w, rfl⟩ := Int.eq_ofNat_of_zero_le hy0
    have hwl : w < o.length := by rw [h1.len]; omega
    simp only [Option.toList, List.foldl_cons, List.foldl_nil, visS, Int.toNat_natCast, hw]
    have hstep : Sq ls k a (if on && decide (oN o w < 0) then o.set w k else o) := by
      split
      · rename_i hc
        rw [Bool.and_eq_true, decide_eq_true_eq] at hc
        obtain ⟨i, x, hi, hix, hax⟩ := h2.1 hc.1
        refine Sq.trans hk.1 h1 ⟨by simp, fun z hz => ?_, fun z hz hz2 => ?_⟩
        · rw [oN_set hwl, if_neg (by rintro rfl; omega)]
        · rw [oN_set hwl] at hz2 ⊢
          by_cases e : z = w
          · subst e
            rw [if_pos rfl]
            exact ⟨rfl, x, by rw [h1.keep x (by omega)]; exact hax, l, hl, i, j, hi, hix, hy⟩
          · rw [if_neg e] at hz2; omega
      · exact h1
    have hmono : ∀ z, 0 ≤ oN o z → 0 ≤ oN (if on && decide (oN o w < 0) then o.set w k else o) z := fun z hz => by
      split
      · rw [oN_set hwl]; split <;> omega
      · exact hz
    refine ⟨hstep, ?_, fun i i' x z h4 h5 h6 h7 h8 => ?_⟩
    · rw [Bool.or_eq_true, decide_eq_true_eq, h2]
      constructor
      · rintro (⟨i, x, hi, e1, e2⟩ | he)
        · exact ⟨i, x, by omega, e1, e2⟩
        · exact ⟨j, w, by omega, hy, hstep.back hk.1 he⟩
      · rintro ⟨i, x, hi, e1, e2⟩
        rcases Nat.lt_or_ge i j with hij | hij
        · exact .inl ⟨i, x, hij, e1, e2⟩
        · have : i = j := by omega
          subst this
          rw [hy] at e1
          injection e1 with e1
          have : w = x := by omega
          subst this
          exact .inr (by rw [hstep.keep w (by omega)]; exact e2)
    · rcases Nat.lt_or_ge i' j with hij | hij
      · exact hmono z (h3 i i' x z h4 hij h6 h7 h8)
      · have : i' = j := by omega
        subst this
        rw [hy] at h8
        injection h8 with h8
        have : w = z := by omega
        subst this
        have hon : on = true := h2.2 ⟨i, x, h4, h6, h7⟩
        subst hon
        rw [Bool.true_and]
        by_cases hneg : oN o w < 0
        · rw [if_pos (by simpa using hneg), oN_set hwl, if_pos rfl]; omega
        · rw [if_neg (by simpa using hneg)]; omega
theorem linS_st {ls : List Line} {l : Line} {k : Int} {a : List Int} (hl : l ∈ ls) (ho : LnOk a.length l) (hk : 1 ≤ k ∧ k ≤ 1000000) : Sq ls k a (linS k a l) ∧ ∀ i j x z : Nat, i < j → l.stops[i]? = some (x : Int) → oN a x = k - 1 → l.stops[j]? = some (z : Int) → 0 ≤ oN (linS k a l) z := by
  obtain ⟨h1, _, h3⟩ := visS_st hl ho hk (Nat.le_refl _)
  rw [List.take_length] at h1 h3
  exact ⟨h1, fun i j x z hij hi hx hj => h3 i j x z hij (List.getElem?_eq_some_iff.1 hj).1 hi hx hj⟩
theorem foldS_st {ls : List Line} {k : Int} (hk : 1 ≤ k ∧ k ≤ 1000000) : ∀ {ms : List Line} {a : List Int}, (∀ l ∈ ms, l ∈ ls ∧ LnOk a.length l) →
    Sq ls k a (ms.foldl (linS k) a) ∧ ∀ l ∈ ms, ∀ i j x z : Nat, i < j → l.stops[i]? = some (x : Int) → oN a x = k - 1 → l.stops[j]? = some (z : Int) → 0 ≤ oN (ms.foldl (linS k) a) z
  | [], a, _ => ⟨Sq.refl _ _ _, fun l hl => by cases hl⟩
  | l :: ms, a, h => by
    obtain ⟨h1, h2⟩ := h l (List.mem_cons_self ..)
    obtain ⟨k1, k2⟩ := linS_st h1 h2 hk
    obtain ⟨k3, k4⟩ := foldS_st (ls := ls) hk (ms := ms) (a := linS k a l) (fun m hm => ⟨(h m (List.mem_cons_of_mem _ hm)).1, by rw [k1.len]; exact (h m (List.mem_cons_of_mem _ hm)).2⟩)
    refine ⟨Sq.trans hk.1 k1 k3, fun m hm i j x z hij hi hx hj => ?_⟩
    rcases List.mem_cons.1 hm with rfl | hm
    · have := k2 i j x z hij hi hx hj
      rw [List.foldl_cons, k3.keep _ this]; exact this
    · exact k4 m hm i j x z hij hi (by rw [k1.keep x (by omega)]; exact hx) hj
theorem rndS_st {ls : List Line} {k : Int} {a : List Int} (h : ∀ l ∈ ls, LnOk a.length l) (hk : 1 ≤ k ∧ k ≤ 1000000) : Sq ls k a (rndS ls k a) ∧ ∀ x z, oN a x = k - 1 → Nx ls x z → 0 ≤ oN (rndS ls k a) z := by
  obtain ⟨h1, h2⟩ := foldS_st (ls := ls) hk (ms := ls) (a := a) (fun l hl => ⟨hl, h l hl⟩)
  exact ⟨h1, fun x z hx ⟨l, hl, i, j, hij, hi, hj⟩ => h2 l hl i j x z hij hi hx hj⟩

structure SInv (ls : List Line) (f N k : Nat) (o : List Int) : Prop where
  len : o.length = N
  bd : ∀ y, oN o y ≤ k
  snd : ∀ y, 0 ≤ oN o y → Rch ls f y
  fst : oN o f = 0
  pre : ∀ y, 1 ≤ oN o y → ∃ x, oN o x = oN o y - 1
  cls : ∀ x z, 0 ≤ oN o x → oN o x < k → Nx ls x z → 0 ≤ oN o z
theorem SInv.next {ls : List Line} {f N k : Nat} {o : List Int} (hls : ∀ l ∈ ls, LnOk N l) (hk : k + 1 ≤ 1000000) (h : SInv ls f N k o) : SInv ls f N (k + 1) (rndS ls ((k + 1 : Nat) : Int) o) := by
  obtain ⟨h1, h2⟩ := rndS_st (k := ((k + 1 : Nat) : Int)) (a := o) (by rw [h.len]; exact hls) (by omega)
  have hfr : ∀ y, oN o y < 0 → 0 ≤ oN (rndS ls ((k + 1 : Nat) : Int) o) y → oN (rndS ls ((k + 1 : Nat) : Int) o) y = ((k + 1 : Nat) : Int) ∧ ∃ x, oN o x = k ∧ Nx ls x y := fun y hy hb => by
    obtain ⟨e1, x, e2, e3⟩ := h1.fresh y hy hb
    exact ⟨e1, x, by omega, e3⟩
  have hkp := h1.keep
  have hln := h1.len
  have h2' : ∀ x z, oN o x = k → Nx ls x z → 0 ≤ oN (rndS ls ((k + 1 : Nat) : Int) o) z := fun x z hx hn => h2 x z (by omega) hn
  generalize rndS ls ((k + 1 : Nat) : Int) o = b at *
  refine ⟨by rw [hln, h.len], fun y => ?_, fun y hy => ?_, by rw [hkp f (by rw [h.fst]; exact Int.le_refl 0), h.fst], fun y hy => ?_, fun x z hx hxk hn => ?_⟩
  · by_cases hy : 0 ≤ oN o y
    · have := h.bd y; rw [hkp y hy]; omega
    · by_cases hy2 : 0 ≤ oN b y
      · rw [(hfr y (by omega) hy2).1]; omega
      · omega
  · by_cases hy2 : 0 ≤ oN o y
    · exact h.snd y hy2
    · obtain ⟨_, x, e2, e3⟩ := hfr y (by omega) hy
      exact .step (h.snd x (by omega)) e3
  · by_cases hy2 : 0 ≤ oN o y
    · have e := hkp y hy2
      obtain ⟨x, hx⟩ := h.pre y (by omega)
      exact ⟨x, by rw [hkp x (by omega), e]; exact hx⟩
    · obtain ⟨e1, x, e2, e3⟩ := hfr y (by omega) (by omega)
      exact ⟨x, by rw [hkp x (by omega), e1]; omega⟩
  · by_cases hx2 : 0 ≤ oN o x
    · have e := hkp x hx2
      by_cases hk2 : oN o x < k
      · have := h.cls x z hx2 hk2 hn
        rw [hkp z this]; exact this
      · have := h.bd x
        exact h2' x z (by omega) hn
    · have := (hfr x (by omega) hx).1
      omega
theorem pigeon : ∀ {n : Nat} {o : List Int}, (∀ j : Nat, j < n → ((j : Nat) : Int) ∈ o) → n ≤ o.length
  | 0, _, _ => Nat.zero_le _
  | n + 1, o, h => by
    have hn := h n (by omega)
    have ih := pigeon (n := n) (o := o.erase (n : Int)) fun j hj => (List.mem_erase_of_ne (by omega)).2 (h j (by omega))
    rw [List.length_erase_of_mem hn] at ih
    have := List.length_pos_of_mem hn
    omega
theorem SInv.down {ls : List Line} {f N k : Nat} {o : List Int} (h : SInv ls f N k o) : ∀ {j : Nat} {y : Nat}, oN o y = (j : Nat) → ∀ i : Nat, i ≤ j → ∃ x, oN o x = (i : Nat)
  | 0, y, hy, i, hi => ⟨y, by rw [hy]; omega⟩
  | j + 1, y, hy, i, hi => by
    rcases Nat.lt_or_ge i (j + 1) with h1 | h1
    · obtain ⟨x, hx⟩ := h.pre y (by omega)
      exact h.down (j := j) (y := x) (by omega) i (by omega)
    · exact ⟨y, by rw [hy]; omega⟩
theorem spk_inv {ls : List Line} {f N : Nat} (hls : ∀ l ∈ ls, LnOk N l) (hN : N ≤ 100000) (hf : f < N) : ∀ {k : Nat}, k ≤ N → SInv ls f N k (spk ls (o0 N f) k)
  | 0, _ => by
    have h0 := o0_at hf
    refine ⟨o0_len N f, fun y => ?_, fun y hy => ?_, ?_, fun y hy => ?_, fun x z hx hx2 => ?_⟩
    · show oN (o0 N f) y ≤ _; rw [h0]; split <;> omega
    · have hy : 0 ≤ oN (o0 N f) y := hy
      rw [h0] at hy
      split at hy
      · rename_i e; subst e; exact .base
      · omega
    · show oN (o0 N f) f = 0; rw [h0, if_pos rfl]
    · have hy : 1 ≤ oN (o0 N f) y := hy
      rw [h0] at hy
      split at hy <;> omega
    · omega
  | k + 1, hk => (spk_inv hls hN hf (k := k) (by omega)).next hls (by omega)
def ridS (ls : List Line) (N f : Nat) : List Int := spk ls (o0 N f) N
theorem ridS_ok {ls : List Line} {f N : Nat} (hls : ∀ l ∈ ls, LnOk N l) (hN : N ≤ 100000) (hf : f < N) : (ridS ls N f).length = N ∧ ∀ y, 0 ≤ oN (ridS ls N f) y ↔ Rch ls f y := by
  have h := spk_inv hls hN hf (Nat.le_refl N)
  have hmax : ∀ y, oN (ridS ls N f) y < N := fun y => by
    have hb : oN (ridS ls N f) y ≤ N := h.bd y
    by_cases e : oN (ridS ls N f) y = N
    · exfalso
      have := pigeon (n := N + 1) (o := ridS ls N f) fun j hj => by
        obtain ⟨x, hx⟩ := h.down e j (by omega)
        have hx : oN (ridS ls N f) x = j := hx
        have hlt : x < (ridS ls N f).length := oN_in (by omega)
        have := List.mem_of_getElem? (oN_at hlt)
        rw [hx] at this
        exact this
      have hl : (ridS ls N f).length = N := h.len
      omega
    · omega
  refine ⟨h.len, fun y => ⟨fun hy => h.snd y hy, fun hy => ?_⟩⟩
  induction hy with
  | base => have := h.fst; show 0 ≤ oN (spk ls (o0 N f) N) f; omega
  | step _ hn ih => exact h.cls _ _ ih (hmax _) hn

/-- The stops reached, in order. -/
def reU (o : List Int) : Nat → List Int
  | 0 => []
  | i + 1 => if 0 ≤ oN o i then reU o i ++ [((i : Nat) : Int)] else reU o i
def reL (o : List Int) : List Int := reU o o.length
theorem reU_same {o o' : List Int} (h : ∀ y, 0 ≤ oN o y ↔ 0 ≤ oN o' y) : ∀ i, reU o i = reU o' i
  | 0 => rfl
  | i + 1 => by
    unfold reU
    rw [reU_same h i]
    by_cases e : 0 ≤ oN o i
    · rw [if_pos e, if_pos ((h i).1 e)]
    · rw [if_neg e, if_neg fun e' => e ((h i).2 e')]
theorem reU_mem {o : List Int} {x : Nat} : ∀ {i : Nat}, ((x : Nat) : Int) ∈ reU o i ↔ x < i ∧ 0 ≤ oN o x
  | 0 => by simp [reU]
  | i + 1 => by
    have ih := reU_mem (o := o) (x := x) (i := i)
    unfold reU
    by_cases e : 0 ≤ oN o i
    · rw [if_pos e, List.mem_append, ih, List.mem_singleton]
      constructor
      · rintro (⟨h1, h2⟩ | h)
        · exact ⟨by omega, h2⟩
        · have : x = i := by omega
          subst this; exact ⟨by omega, e⟩
      · rintro ⟨h1, h2⟩
        by_cases hx : x = i
        · exact .inr (by rw [hx])
        · exact .inl ⟨by omega, h2⟩
    · rw [if_neg e, ih]
      constructor
      · rintro ⟨h1, h2⟩; exact ⟨by omega, h2⟩
      · rintro ⟨h1, h2⟩
        refine ⟨?_, h2⟩
        by_cases hx : x = i
        · subst hx; exact absurd h2 e
        · omega
theorem reU_len (o : List Int) : ∀ i, (reU o i).length ≤ i
  | 0 => by simp [reU]
  | i + 1 => by
    have := reU_len o i
    unfold reU
    split
    · simp; omega
    · omega
end Go.Proofs.Yteoiohkdhdpkoaa

