/- Rides: what the program's search reaches, in plain terms. -/
import Derived.Test.YteoiohkdhdpkoaaN3
namespace Go.Proofs.Yteoiohkdhdpkoaa
open Go Go.Am

def oN (o : List Int) (k : Nat) : Int := o.getD k (-1)
theorem oN_set {o : List Int} {i : Nat} {v : Int} (h : i < o.length) (k : Nat) : oN (o.set i v) k = if k = i then v else oN o k := by
  unfold oN
  rw [List.getD_eq_getElem?_getD, List.getElem?_set, List.getD_eq_getElem?_getD]
  by_cases e : i = k
  · subst e; simp [h]
  · rw [if_neg e, if_neg (fun h => e h.symm)]
theorem oN_at {o : List Int} {k : Nat} (h : k < o.length) : o[k]? = some (oN o k) := by
  unfold oN
  rw [List.getD_eq_getElem?_getD, List.getElem?_eq_getElem h]; rfl
theorem oN_in {o : List Int} {k : Nat} (h : 0 ≤ oN o k) : k < o.length := by
  rcases Nat.lt_or_ge k o.length with h1 | h1
  · exact h1
  · unfold oN at h
    rw [List.getD_eq_getElem?_getD, List.getElem?_eq_none h1] at h
    simp at h
/-- How many are not reached. -/
def un (o : List Int) : Nat := o.countP fun x => decide (x < 0)
theorem un_set : ∀ {o : List Int} {i : Nat} {v : Int}, i < o.length → oN o i < 0 → 0 ≤ v → un (o.set i v) + 1 = un o
  | [], i, v, h, _, _ => by simp at h
  | x :: xs, 0, v, h, hn, hv => by
    have hx : x < 0 := by simpa [oN] using hn
    unfold un
    rw [List.set_cons_zero, List.countP_cons_of_neg (by simpa using hv), List.countP_cons_of_pos (by simpa using hx)]
  | x :: xs, i + 1, v, h, hn, hv => by
    have ih := un_set (o := xs) (i := i) (v := v) (by simpa using h) (by simpa [oN] using hn) hv
    unfold un at *
    rw [List.set_cons_succ, List.countP_cons, List.countP_cons]
    omega
theorem un_le (o : List Int) : un o ≤ o.length := List.countP_le_length
theorem un_pos {o : List Int} {i : Nat} (h : i < o.length) (hn : oN o i < 0) : 1 ≤ un o := by
  have := un_set h hn (Int.le_refl 0)
  omega

/-- One ride leads from a to b. -/
def Nx (ls : List Line) (a b : Nat) : Prop := ∃ l ∈ ls, ∃ i j : Nat, i < j ∧ l.stops[i]? = some (a : Int) ∧ l.stops[j]? = some (b : Int)
inductive Rch (ls : List Line) (f : Nat) : Nat → Prop
  | base : Rch ls f f
  | step {a b : Nat} : Rch ls f a → Nx ls a b → Rch ls f b
/-- The lines stay among N stops, and call at none twice. -/
def LnOk (N : Nat) (l : Line) : Prop := ∀ (i : Nat) (y : Int), l.stops[i]? = some y → (0 ≤ y ∧ y < N) ∧ idxF (pInt y) l.stops = (i : Nat)
theorem lnOk_of {N : Nat} {l : Line} (h : lineOk N l = true) : LnOk N l := by
  unfold lineOk at h
  simp only [Bool.and_eq_true] at h
  have h1 := h.1.2
  unfold stopsOk at h1
  intro i y hy
  have h2 := allI_iff.1 h1 i y hy
  simp only [Bool.and_eq_true, decide_eq_true_eq, inR_iff] at h2
  exact ⟨⟨h2.1.1, by have := h2.1.2; omega⟩, h2.2⟩

/-! The program. -/
structure Bf where
  o : List Int
  q : List Nat
def visB (s : Nat) (a : Bf) (y : Int) : Bf := if oN a.o y.toNat < 0 then ⟨a.o.set y.toNat (IntKind.i64.wrap (oN a.o s + 1)), a.q ++ [y.toNat]⟩ else a
def linB (s : Nat) (a : Bf) (l : Line) : Bf := if idxF (pInt (s : Int)) l.stops < 0 then a else (l.stops.drop (idxF (pInt (s : Int)) l.stops + 1).toNat).foldl (visB s) a
def rndB (ls : List Line) (s : Nat) (a : Bf) : Bf := ls.foldl (linB s) a
def nxtB (ls : List Line) (s : Nat) (a : Bf) : Bf := ⟨(rndB ls s a).o, (rndB ls s a).q.tail⟩
def bfs (ls : List Line) : Nat → Bf → Bf
  | 0, a => a
  | n + 1, a => match a.q with
    | [] => a
    | s :: _ => bfs ls n (nxtB ls s a)

/-- What visits from s come to. -/
structure St (ls : List Line) (s : Nat) (a b : Bf) : Prop where
  len : b.o.length = a.o.length
  keep : ∀ y, 0 ≤ oN a.o y → oN b.o y = oN a.o y
  fresh : ∀ y, oN a.o y < 0 → 0 ≤ oN b.o y → oN b.o y = oN a.o s + 1 ∧ y ∈ b.q ∧ Nx ls s y
  que : ∃ nw, b.q = a.q ++ nw ∧ (∀ y ∈ nw, y < a.o.length ∧ 0 ≤ oN b.o y) ∧ un b.o + nw.length = un a.o
theorem St.refl (ls : List Line) (s : Nat) (a : Bf) : St ls s a a := ⟨rfl, fun _ _ => rfl, fun y h1 h2 => by omega, [], by simp, by simp, by simp⟩
theorem St.trans {ls : List Line} {s : Nat} {a b c : Bf} (hs : 0 ≤ oN a.o s) (h1 : St ls s a b) (h2 : St ls s b c) : St ls s a c := by
  obtain ⟨n1, q1, r1, u1⟩ := h1.que
  obtain ⟨n2, q2, r2, u2⟩ := h2.que
  have hsb := h1.keep s hs
  refine ⟨h2.len.trans h1.len, fun y hy => ?_, fun y hy hc => ?_, n1 ++ n2, by rw [q2, q1, List.append_assoc], fun y hy => ?_, by rw [List.length_append]; omega⟩
  · have e := h1.keep y hy
    rw [h2.keep y (by omega), e]
  · by_cases hb : 0 ≤ oN b.o y
    · obtain ⟨e1, e2, e3⟩ := h1.fresh y hy hb
      exact ⟨by rw [h2.keep y hb, e1], by rw [q2]; exact List.mem_append_left _ e2, e3⟩
    · obtain ⟨e1, e2, e3⟩ := h2.fresh y (by omega) hc
      exact ⟨by rw [e1, hsb], e2, e3⟩
  · rcases List.mem_append.1 hy with hy | hy
    · obtain ⟨e1, e2⟩ := r1 y hy
      exact ⟨e1, by rw [h2.keep y e2]; exact e2⟩
    · obtain ⟨e1, e2⟩ := r2 y hy
      exact ⟨by rw [← h1.len]; exact e1, e2⟩
theorem visB_st {ls : List Line} {s : Nat} {a : Bf} {y : Int} (hs : 0 ≤ oN a.o s ∧ oN a.o s ≤ 1000000) (hy : y.toNat < a.o.length) (hn : Nx ls s y.toNat) : St ls s a (visB s a y) ∧ 0 ≤ oN (visB s a y).o y.toNat := by
  unfold visB
  split
  · rename_i hlt
    have hw : IntKind.i64.wrap (oN a.o s + 1) = oN a.o s + 1 := wrap_small (by omega) (by omega)
    rw [hw]
    refine ⟨⟨by simp, fun z hz => ?_, fun z hz hz2 => ?_, [y.toNat], rfl, fun z hz => ?_, ?_⟩, ?_⟩
    · simp only
      rw [oN_set hy, if_neg (by rintro rfl; omega)]
    · simp only at hz2 ⊢
      rw [oN_set hy] at hz2 ⊢
      by_cases e : z = y.toNat
      · subst e
        rw [if_pos rfl]
        exact ⟨rfl, by simp, hn⟩
      · rw [if_neg e] at hz2; omega
    · rw [List.mem_singleton] at hz
      subst hz
      refine ⟨hy, ?_⟩
      simp only
      rw [oN_set hy, if_pos rfl]; omega
    · have := un_set hy hlt (v := oN a.o s + 1) (by omega)
      simpa using this
    · simp only
      rw [oN_set hy, if_pos rfl]; omega
  · rename_i hge
    exact ⟨St.refl _ _ _, by omega⟩
theorem foldB_st {ls : List Line} {s : Nat} : ∀ {ys : List Int} {a : Bf}, (0 ≤ oN a.o s ∧ oN a.o s ≤ 1000000) → (∀ y ∈ ys, y.toNat < a.o.length ∧ Nx ls s y.toNat) →
    St ls s a (ys.foldl (visB s) a) ∧ ∀ y ∈ ys, 0 ≤ oN (ys.foldl (visB s) a).o y.toNat
  | [], a, _, _ => ⟨St.refl _ _ _, fun y hy => by cases hy⟩
  | y :: ys, a, hs, h => by
    obtain ⟨h1, h2⟩ := h y (List.mem_cons_self ..)
    obtain ⟨k1, k2⟩ := visB_st hs h1 h2
    have ks := k1.keep s hs.1
    obtain ⟨k3, k4⟩ := foldB_st (ys := ys) (a := visB s a y) (by omega) fun z hz => ⟨by rw [k1.len]; exact (h z (List.mem_cons_of_mem _ hz)).1, (h z (List.mem_cons_of_mem _ hz)).2⟩
    refine ⟨St.trans hs.1 k1 k3, fun z hz => ?_⟩
    rcases List.mem_cons.1 hz with rfl | hz
    · rw [List.foldl_cons, k3.keep _ k2]; exact k2
    · exact k4 z hz
theorem idx_at {xs : List Int} {y : Int} (h : 0 ≤ idxF (pInt y) xs) : ∃ i : Nat, idxF (pInt y) xs = (i : Nat) ∧ xs[i]? = some y := by
  unfold idxF at *
  split at h
  · rename_i ha
    rw [if_pos ha]
    refine ⟨xs.findIdx (pInt y), rfl, ?_⟩
    have hlt : xs.findIdx (pInt y) < xs.length := List.findIdx_lt_length_of_exists (by simpa using ha)
    have := List.findIdx_getElem (w := hlt)
    rw [List.getElem?_eq_getElem hlt]
    unfold pInt at *
    simp only [decide_eq_true_eq] at this
    rw [← this]
  · omega
theorem after_ok {ls : List Line} {l : Line} {N s i : Nat} (hl : l ∈ ls) (ho : LnOk N l) (hi : l.stops[i]? = some (s : Int)) : ∀ y ∈ l.stops.drop (i + 1), y.toNat < N ∧ Nx ls s y.toNat := by
  intro y hy
  obtain ⟨j, hj⟩ := List.mem_iff_getElem?.1 hy
  rw [List.getElem?_drop] at hj
  have h2 := ho _ _ hj
  refine ⟨by omega, l, hl, i, i + 1 + j, by omega, hi, ?_⟩
  rw [hj, Int.toNat_of_nonneg h2.1.1]
theorem linB_st {ls : List Line} {l : Line} {s : Nat} {a : Bf} (hl : l ∈ ls) (ho : LnOk a.o.length l) (hs : 0 ≤ oN a.o s ∧ oN a.o s ≤ 1000000) :
    St ls s a (linB s a l) ∧ ∀ i j z : Nat, i < j → l.stops[i]? = some (s : Int) → l.stops[j]? = some (z : Int) → 0 ≤ oN (linB s a l).o z := by
  unfold linB
  split
  · rename_i hlt
    refine ⟨St.refl _ _ _, fun i j z _ hi _ => ?_⟩
    have := (ho _ _ hi).2
    omega
  · rename_i hge
    obtain ⟨i, e, hi⟩ := idx_at (xs := l.stops) (y := (s : Int)) (by omega)
    rw [e, show (((i : Nat) : Int) + 1).toNat = i + 1 from by omega]
    obtain ⟨h1, h2⟩ := foldB_st (ls := ls) (s := s) (ys := l.stops.drop (i + 1)) (a := a) hs (after_ok hl ho hi)
    refine ⟨h1, fun i' j z hij hi' hj => ?_⟩
    have e2 := (ho _ _ hi').2
    have : i' = i := by omega
    subst this
    have := h2 (z : Int) (List.mem_iff_getElem?.2 ⟨j - (i' + 1), by rw [List.getElem?_drop, show i' + 1 + (j - (i' + 1)) = j from by omega]; exact hj⟩)
    simpa using this
theorem foldL_st {ls : List Line} {s : Nat} : ∀ {ms : List Line} {a : Bf}, (∀ l ∈ ms, l ∈ ls ∧ LnOk a.o.length l) → (0 ≤ oN a.o s ∧ oN a.o s ≤ 1000000) →
    St ls s a (ms.foldl (linB s) a) ∧ ∀ l ∈ ms, ∀ i j z : Nat, i < j → l.stops[i]? = some (s : Int) → l.stops[j]? = some (z : Int) → 0 ≤ oN (ms.foldl (linB s) a).o z
  | [], a, _, _ => ⟨St.refl _ _ _, fun l hl => by cases hl⟩
  | l :: ms, a, h, hs => by
    obtain ⟨h1, h2⟩ := h l (List.mem_cons_self ..)
    obtain ⟨k1, k2⟩ := linB_st h1 h2 hs
    have ks := k1.keep s hs.1
    obtain ⟨k3, k4⟩ := foldL_st (ls := ls) (s := s) (ms := ms) (a := linB s a l) (fun m hm => ⟨(h m (List.mem_cons_of_mem _ hm)).1, by rw [k1.len]; exact (h m (List.mem_cons_of_mem _ hm)).2⟩) (by omega)
    refine ⟨St.trans hs.1 k1 k3, fun m hm i j z hij hi hj => ?_⟩
    rcases List.mem_cons.1 hm with rfl | hm
    · have := k2 i j z hij hi hj
      rw [List.foldl_cons, k3.keep _ this]; exact this
    · exact k4 m hm i j z hij hi hj
theorem rndB_st {ls : List Line} {s : Nat} {a : Bf} (h : ∀ l ∈ ls, LnOk a.o.length l) (hs : 0 ≤ oN a.o s ∧ oN a.o s ≤ 1000000) : St ls s a (rndB ls s a) ∧ ∀ z, Nx ls s z → 0 ≤ oN (rndB ls s a).o z := by
  obtain ⟨h1, h2⟩ := foldL_st (ls := ls) (ms := ls) (a := a) (fun l hl => ⟨hl, h l hl⟩) hs
  exact ⟨h1, fun z ⟨l, hl, i, j, hij, hi, hj⟩ => h2 l hl i j z hij hi hj⟩

/-- What holds from round to round. -/
structure GInv (ls : List Line) (f N : Nat) (a : Bf) : Prop where
  len : a.o.length = N
  qr : ∀ y ∈ a.q, y < N ∧ 0 ≤ oN a.o y
  bd : ∀ y, oN a.o y + (un a.o : Nat) ≤ N
  snd : ∀ y, 0 ≤ oN a.o y → Rch ls f y
  zer : ∀ y, oN a.o y = 0 ↔ y = f
  cls : ∀ y, 0 ≤ oN a.o y → y ∈ a.q ∨ ∀ z, Nx ls y z → 0 ≤ oN a.o z
def mes (a : Bf) : Nat := 2 * un a.o + a.q.length
theorem GInv.next {ls : List Line} {f N s : Nat} {rest : List Nat} {a : Bf} (hls : ∀ l ∈ ls, LnOk N l) (hN : N ≤ 1000000) (h : GInv ls f N a) (hq : a.q = s :: rest) :
    GInv ls f N (nxtB ls s a) ∧ mes (nxtB ls s a) + 1 ≤ mes a ∧ St ls s a (rndB ls s a) ∧ ∀ z, Nx ls s z → 0 ≤ oN (nxtB ls s a).o z := by
  have hsq := h.qr s (by rw [hq]; exact List.mem_cons_self ..)
  have hsb := h.bd s
  obtain ⟨h1, h2⟩ := rndB_st (s := s) (a := a) (ls := ls) (by rw [h.len]; exact hls) ⟨hsq.2, by omega⟩
  obtain ⟨nw, q1, q2, q3⟩ := h1.que
  have htl : (nxtB ls s a).q = rest ++ nw := by show (rndB ls s a).q.tail = _; rw [q1, hq]; rfl
  have ho : (nxtB ls s a).o = (rndB ls s a).o := rfl
  have hin : ∀ y ∈ nw, y ∈ (nxtB ls s a).q := fun y hy => by rw [htl]; exact List.mem_append_right _ hy
  have hfr : ∀ y, oN a.o y < 0 → 0 ≤ oN (rndB ls s a).o y → oN (rndB ls s a).o y = oN a.o s + 1 ∧ y ∈ nw ∧ Nx ls s y := fun y hy hb => by
    obtain ⟨e1, e2, e3⟩ := h1.fresh y hy hb
    refine ⟨e1, ?_, e3⟩
    rw [q1] at e2
    rcases List.mem_append.1 e2 with e2 | e2
    · have := (h.qr y e2).2; omega
    · exact e2
  refine ⟨⟨by rw [ho, h1.len, h.len], fun y hy => ?_, fun y => ?_, fun y hy => ?_, fun y => ?_, fun y hy => ?_⟩, ?_, h1, fun z hz => by rw [ho]; exact h2 z hz⟩
  · rw [htl] at hy
    rcases List.mem_append.1 hy with hy | hy
    · have := h.qr y (by rw [hq]; exact List.mem_cons_of_mem _ hy)
      exact ⟨this.1, by rw [ho, h1.keep y this.2]; exact this.2⟩
    · have := q2 y hy
      exact ⟨by rw [← h.len]; exact this.1, this.2⟩
  · rw [ho]
    have hb := h.bd y
    by_cases hy : 0 ≤ oN a.o y
    · rw [h1.keep y hy]; omega
    · by_cases hy2 : 0 ≤ oN (rndB ls s a).o y
      · obtain ⟨e1, e2, _⟩ := hfr y (by omega) hy2
        have : 1 ≤ nw.length := List.length_pos_of_mem e2
        omega
      · have := un_le (rndB ls s a).o
        rw [h1.len, h.len] at this
        omega
  · rw [ho] at hy
    by_cases hy2 : 0 ≤ oN a.o y
    · exact h.snd y hy2
    · exact .step (h.snd s hsq.2) (hfr y (by omega) hy).2.2
  · rw [ho]
    by_cases hy2 : 0 ≤ oN a.o y
    · rw [h1.keep y hy2]; exact h.zer y
    · have hne : ¬ y = f := fun e => by have := (h.zer y).2 e; omega
      refine ⟨fun e => ?_, fun e => absurd e hne⟩
      have := (hfr y (by omega) (by omega)).1
      omega
  · rw [ho] at hy
    by_cases hy2 : 0 ≤ oN a.o y
    · rcases h.cls y hy2 with hc | hc
      · rw [hq] at hc
        rcases List.mem_cons.1 hc with rfl | hc
        · exact .inr fun z hz => by rw [ho]; exact h2 z hz
        · exact .inl (by rw [htl]; exact List.mem_append_left _ hc)
      · exact .inr fun z hz => by rw [ho, h1.keep z (hc z hz)]; exact hc z hz
    · exact .inl (hin y (hfr y (by omega) hy).2.1)
  · unfold mes
    rw [htl, ho, hq, List.length_append, List.length_cons]
    omega
theorem bfs_ok {ls : List Line} {f N : Nat} (hls : ∀ l ∈ ls, LnOk N l) (hN : N ≤ 1000000) : ∀ {n : Nat} {a : Bf}, GInv ls f N a → mes a ≤ n → GInv ls f N (bfs ls n a) ∧ (bfs ls n a).q = [] ∧ ∀ y, 0 ≤ oN a.o y → oN (bfs ls n a).o y = oN a.o y
  | 0, a, h, hm => by
    refine ⟨h, ?_, fun _ _ => rfl⟩
    unfold mes at hm
    exact List.length_eq_zero_iff.1 (by show a.q.length = 0; omega)
  | n + 1, a, h, hm => by
    rw [bfs]
    cases hq : a.q with
    | nil => exact ⟨h, hq, fun _ _ => rfl⟩
    | cons s rest =>
      simp only
      obtain ⟨h1, h2, h3, _⟩ := h.next hls hN hq
      obtain ⟨k1, k2, k3⟩ := bfs_ok hls hN h1 (n := n) (by omega)
      refine ⟨k1, k2, fun y hy => ?_⟩
      have e : oN (nxtB ls s a).o y = oN a.o y := h3.keep y hy
      rw [k3 y (by rw [e]; exact hy), e]

def o0 (N f : Nat) : List Int := (List.replicate N (-1)).set f 0
theorem o0_len (N f : Nat) : (o0 N f).length = N := by simp [o0]
theorem o0_at {N f : Nat} (hf : f < N) (y : Nat) : oN (o0 N f) y = if y = f then 0 else -1 := by
  unfold o0
  rw [oN_set (by simpa using hf)]
  by_cases e : y = f
  · rw [if_pos e, if_pos e]
  · rw [if_neg e, if_neg e]
    unfold oN
    rw [List.getD_eq_getElem?_getD, List.getElem?_replicate]
    split <;> rfl
theorem o0_un {N f : Nat} (hf : f < N) : un (o0 N f) + 1 = N := by
  unfold o0
  have h1 : oN (List.replicate N (-1)) f < 0 := by
    unfold oN
    rw [List.getD_eq_getElem?_getD, List.getElem?_replicate, if_pos hf]
    simp
  rw [un_set (by simpa using hf) h1 (Int.le_refl 0)]
  unfold un
  rw [List.countP_replicate]
  simp
def b0 (N f : Nat) : Bf := ⟨o0 N f, [f]⟩
theorem b0_inv {ls : List Line} {f N : Nat} (hf : f < N) : GInv ls f N (b0 N f) := by
  have h0 := o0_at hf
  have hu := o0_un hf
  refine ⟨o0_len N f, fun y hy => ?_, fun y => ?_, fun y hy => ?_, fun y => ?_, fun y hy => ?_⟩
  · have : y = f := by simpa [b0] using hy
    subst this
    exact ⟨hf, by show 0 ≤ oN (o0 N y) y; rw [h0, if_pos rfl]; exact Int.le_refl 0⟩
  · show oN (o0 N f) y + (un (o0 N f) : Nat) ≤ N
    rw [h0]; split <;> omega
  · have hy : 0 ≤ oN (o0 N f) y := hy
    rw [h0] at hy
    split at hy
    · rename_i e; subst e; exact .base
    · omega
  · show oN (o0 N f) y = 0 ↔ y = f
    rw [h0]; split
    · rename_i e; exact ⟨fun _ => e, fun _ => rfl⟩
    · rename_i e; exact ⟨fun h => by omega, fun h => absurd h e⟩
  · have hy : 0 ≤ oN (o0 N f) y := hy
    rw [h0] at hy
    split at hy
    · rename_i e; subst e; exact .inl (by simp [b0])
    · omega
theorem b0_mes {N f : Nat} (hf : f < N) : mes (b0 N f) ≤ 2 * N := by
  have := o0_un hf
  unfold mes b0
  simp only [List.length_cons, List.length_nil]
  omega
def ridB (ls : List Line) (N f : Nat) : List Int := (bfs ls (2 * N) (b0 N f)).o
/-- What the program's search comes to. -/
structure Rides (ls : List Line) (N f : Nat) (o : List Int) : Prop where
  len : o.length = N
  rch : ∀ y, 0 ≤ oN o y ↔ Rch ls f y
  zer : ∀ y, oN o y = 0 ↔ y = f
  one : ∀ z, z ≠ f → Nx ls f z → oN o z = 1
  bd : ∀ y, oN o y ≤ N
theorem ridB_ok {ls : List Line} {f N : Nat} (hls : ∀ l ∈ ls, LnOk N l) (hN : N ≤ 1000000) (hf : f < N) : Rides ls N f (ridB ls N f) := by
  have g0 := b0_inv (ls := ls) hf
  obtain ⟨k1, k2, k3⟩ := bfs_ok hls hN g0 (b0_mes hf)
  have hr : ∀ y, Rch ls f y → 0 ≤ oN (ridB ls N f) y := by
    intro y hy
    induction hy with
    | base => have := (k1.zer f).2 rfl; show 0 ≤ oN (bfs ls (2 * N) (b0 N f)).o f; omega
    | step _ hn ih =>
      rcases k1.cls _ ih with hc | hc
      · rw [k2] at hc; cases hc
      · exact hc _ hn
  refine ⟨k1.len, fun y => ⟨fun h => k1.snd y h, hr y⟩, k1.zer, fun z hz hn => ?_, fun y => by have := k1.bd y; show oN (bfs ls (2 * N) (b0 N f)).o y ≤ N; omega⟩
  obtain ⟨h1, h2, h3, h4⟩ := g0.next hls hN (s := f) (rest := []) rfl
  obtain ⟨n', hn'⟩ : ∃ n', 2 * N = n' + 1 := ⟨2 * N - 1, by omega⟩
  have e : ridB ls N f = (bfs ls n' (nxtB ls f (b0 N f))).o := by unfold ridB; rw [hn']; rfl
  have hm := b0_mes (N := N) hf
  obtain ⟨_, _, m3⟩ := bfs_ok hls hN h1 (n := n') (by omega)
  have hz0 : oN (b0 N f).o z = -1 := by show oN (o0 N f) z = -1; rw [o0_at hf, if_neg hz]
  have hf0 : oN (b0 N f).o f = 0 := by show oN (o0 N f) f = 0; rw [o0_at hf, if_pos rfl]
  have e1 := (h3.fresh z (by omega) (h4 z hn)).1
  have e2 : oN (nxtB ls f (b0 N f)).o z = 1 := by show oN (rndB ls f (b0 N f)).o z = 1; rw [e1, hf0]; rfl
  rw [e, m3 z (by omega), e2]
end Go.Proofs.Yteoiohkdhdpkoaa

