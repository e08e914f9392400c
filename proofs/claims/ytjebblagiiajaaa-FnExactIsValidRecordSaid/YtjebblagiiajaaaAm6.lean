/- The abstract machine, part 6: slices, lengths, function values, moves. -/
import Derived.Test.YtjebblagiiajaaaAm5
namespace Go.Am
open Go

section
variable {P : Program} {T : TypeId → Option TI} (hT : TOk P T) {w0 w : World} {A : Nat → Prop} {locs : List (Option Loc)} {β : Nat → Option Loc} {σ : S} {a : Act}
variable (h : Sim w0 A locs β σ a w) {o : Oper} (hd : ∀ d, o.dst = some d → d < σ.n) {K : Eff → Prop} {m' : Nat → Option O} (hm : ∀ id ob, m' id = some ob → σ.m id = some ob)

theorem run_bounds (isSlice : Bool) (len cap : Nat) (lo hi : Option Value) (l hh : Int) (hlo : lo = none ∧ l = 0 ∨ ∃ k, lo = some (.int k l)) (hhi : hi = none ∧ hh = len ∨ ∃ k, hi = some (.int k hh))
    (h0 : 0 ≤ l) (h1 : l ≤ hh) (h2 : hh ≤ cap) (w : World) : (Instr.sliceBounds isSlice len cap lo hi none).run P w = .ok (l.toNat, hh.toNat, cap) w := by
  have eh : (hh.toNat : Int) = hh := Int.toNat_of_nonneg (by omega)
  rcases hlo with ⟨rfl, rfl⟩ | ⟨k, rfl⟩ <;> rcases hhi with ⟨rfl, rfl⟩ | ⟨k', rfl⟩ <;>
    (try have h3 : 0 ≤ hh := by omega) <;> (try have h4 : (l.toNat : Int) = l := Int.toNat_of_nonneg h0) <;> simp_all [Instr.sliceBounds, run_sliceBound]

include h in
theorem bnd_ev {x : Option Operand} {dflt : Int} {K : Int → Prop} (hk : bnd (x.map σ.ev) dflt K) : ∃ n, K n ∧ (x.map a.eval = none ∧ n = dflt ∨ ∃ k, x.map a.eval = some (.int k n)) := by
  unfold bnd at hk
  cases x with
  | none => exact ⟨dflt, hk, .inl ⟨rfl, rfl⟩⟩
  | some y =>
    simp only [Option.map_some] at hk ⊢
    split at hk
    · rename_i e; cases e
    · rename_i k n e
      injection e with e
      exact ⟨n, hk, .inr ⟨k, by rw [rep_int (h.imm e)]⟩⟩
    · exact hk.elim

theorem rep_slice {B : Nat → Prop} {ad : Option Addr} {n c : Nat} {rows : List (List D)} (hr : Rep w B (.slice ad n c) (.list rows)) {sz : Nat} (hsz : ∀ r ∈ rows, r.length = sz) {l hh : Nat} (h1 : l ≤ hh) (h2 : hh ≤ rows.length) :
    Rep w B (.slice (if c = l then ad else ad.map (·.add (l * sz))) (hh - l) (c - l)) (.list ((rows.drop l).take (hh - l))) := by
  obtain ⟨ad', n', c', e, hn, hrest⟩ := rep_list hr
  injection e with e1 e2 e3
  subst e1 e2 e3
  by_cases hlt : l < hh
  · obtain ⟨b, sz', g, rfl, hc, hrows, hb, hB, hs, hcell, hrep⟩ := hrest (by omega)
    have hsz' : sz' = sz := by
      obtain ⟨r, rest, rfl⟩ : ∃ r rest, rows = r :: rest := by
        cases rows with
        | nil => simp at h2; omega
        | cons r rest => exact ⟨r, rest, rfl⟩
      rw [← hrows r (by simp), hsz r (by simp)]
    subst hsz'
    rw [if_neg (by omega)]
    have hfl : ∀ (j : Nat) (d : D), ((rows.drop l).take (hh - l)).flatten[j]? = some d → rows.flatten[l * sz' + j]? = some d := by
      intro j d hj
      rw [flat_take (sz := sz') _ (fun r hr => hsz r (List.mem_of_mem_drop hr)), flat_drop rows hsz] at hj
      rw [List.getElem?_take] at hj
      split at hj
      · rwa [List.getElem?_drop] at hj
      · cases hj
    refine .list _ _ _ _ sz' (fun j => g (l * sz' + j)) ?_ (by omega) (fun r hr => hsz r (List.mem_of_mem_drop (List.mem_of_mem_take hr))) (by show (b.add _).block < _; rw [block_add]; exact hb) (by show ¬ B (b.add _).block; rw [block_add]; exact hB) (by show (b.add _).spot = none; rw [add_spot hs]) ?_ ?_
    · rw [List.length_take, List.length_drop]; omega
    · intro j d hj
      show w.cell? ((b.add _).add j) = _
      rw [add_add]
      exact hcell _ d (hfl j d hj)
    · intro j d hj
      exact hrep _ d (hfl j d hj)
  · have e : hh - l = 0 := by omega
    rw [e, List.take_zero]
    exact .nil _ _

include hT h hd hm in
theorem good_slice {t : TypeId} {x : Operand} {lo hi mx : Option Operand} (ho : o.op = .slice t x lo hi mx) (hk : opSlice T m' t (σ.ev x) (lo.map σ.ev) (hi.map σ.ev) (mx.map σ.ev) K) : Good P w0 A locs σ a w o K := by
  unfold opSlice at hk
  obtain ⟨hmx, hk⟩ := hk
  have hmx' : mx = none := by cases mx <;> first | rfl | (simp at hmx)
  subst hmx'
  split at hk
  · rename_i _ _ _ s ht e
    have hu := hT.str ht rfl
    have hx := rep_str (h.imm e)
    obtain ⟨l, hk, hlo⟩ := bnd_ev h hk
    obtain ⟨hh, hk, hhi⟩ := bnd_ev h hk
    obtain ⟨h0, h1, h2, hk⟩ := hk
    refine h.val hd hk (v := .string (s.extract l.toNat hh.toNat)) ?_ (.str _)
    have hb := run_bounds (P := P) false s.size s.size _ _ l hh hlo hhi h0 h1 h2 w
    simp only [execOp, ho, hx, Instr.sliceAt, Option.map_none, Sem.run_bind, run_underlying hu, Result.andThen_ok, Instr.slice, Option.isSome_none, Bool.false_eq_true, if_false, Sem.run_pure, hb]
  · rename_i e _ _ _ rows ht e'
    have hu := hT.slice ht rfl
    have hx := h.imm e'
    split at hk
    · rename_i te hte
      obtain ⟨hrows, hk⟩ := hk
      obtain ⟨l, hk, hlo⟩ := bnd_ev h hk
      obtain ⟨hh, hk, hhi⟩ := bnd_ev h hk
      obtain ⟨h0, h1, h2, hk⟩ := hk
      have hsz : ∀ w : World, (sizeOf e).run P w = .ok te.size w := fun w => hT.sizeOf hte w
      obtain ⟨ad, n, c, hv, hn, hrest⟩ := rep_list hx
      have hnc : n ≤ c ∨ n = 0 := by
        by_cases hn0 : 0 < n
        · obtain ⟨b, sz, g, _, hc, _⟩ := hrest hn0; exact .inl hc
        · exact .inr (by omega)
      subst hn
      have hcap : hh ≤ (c : Int) := by omega
      have hb := run_bounds (P := P) true rows.length c _ _ l hh hlo hhi h0 h1 hcap w
      rw [hv] at hx
      refine h.val hd hk (v := .slice (if c = l.toNat then ad else ad.map (·.add (l.toNat * te.size))) (hh.toNat - l.toNat) (c - l.toNat)) ?_ (rep_slice hx hrows (by omega) (by omega))
      simp only [execOp, ho, hv, Instr.sliceAt, Option.map_none, Sem.run_bind, run_underlying hu, Result.andThen_ok, Instr.slice, Sem.run_pure, hb, hsz]
    · exact hk.elim
  · rename_i e _ _ _ id off len ht e'
    have hu := hT.slice ht rfl
    have hx := h.ev x
    rw [e'] at hx
    split at hk
    · rename_i te ty sz rows hte hmm
      have hmm' := hm _ _ hmm
      simp only [AvRep, AvRep0, hmm'] at hx
      obtain ⟨rfl, hk⟩ := hk
      obtain ⟨l, hk, hlo⟩ := bnd_ev h hk
      obtain ⟨hh, hk, hhi⟩ := bnd_ev h hk
      obtain ⟨h0, h1, h2, hk⟩ := hk
      have hsz : ∀ w : World, (sizeOf e).run P w = .ok te.size w := fun w => hT.sizeOf hte w
      obtain ⟨hle, hx⟩ := hx
      have hob := h.ob id _ hmm'
      obtain ⟨_, _, hob⟩ := hob
      rcases hx with ⟨hβ, hv⟩ | ⟨lc, ad, hβ, hv, hot, had⟩
      · have hrn : rows = [] := by
          rcases hob with ⟨_, hrn⟩ | ⟨lc, cs, hβ', _⟩
          · exact hrn
          · rw [hβ] at hβ'; cases hβ'
        subst hrn
        simp only [List.length_nil] at hle
        have e0 : len = 0 := by omega
        subst e0
        have e1 : l = 0 := by omega
        have e2 : hh = 0 := by omega
        subst e1 e2
        have hb := run_bounds (P := P) true 0 0 _ _ 0 0 hlo hhi (by omega) (by omega) (by omega) w
        refine h.val hd hk (v := .slice none 0 0) ?_ ?_
        · simp only [execOp, ho, hv, Instr.sliceAt, Option.map_none, Sem.run_bind, run_underlying hu, Result.andThen_ok, Instr.slice, Sem.run_pure, hb, hsz]
          simp
        · simp only [AvRep, AvRep0, hmm']
          exact ⟨by simp; omega, .inl ⟨hβ, trivial⟩⟩
      · rcases hob with ⟨hβ', _⟩ | ⟨l', cs, hβ', _, _, hrt, _⟩
        · rw [hβ] at hβ'; cases hβ'
        · rw [hβ] at hβ'; injection hβ' with hβ'; subst hβ'
          have hb := run_bounds (P := P) true len (lc.tot - off) _ _ l hh hlo hhi h0 h1 (by omega) w
          refine h.val hd hk (v := .slice (some (if lc.tot - off = l.toNat then ad else ad.add (l.toNat * te.size))) (hh.toNat - l.toNat) (lc.tot - off - l.toNat)) ?_ ?_
          · simp only [execOp, ho, hv, Instr.sliceAt, Option.map_none, Sem.run_bind, run_underlying hu, Result.andThen_ok, Instr.slice, Sem.run_pure, hb, hsz]
            congr 3
            split <;> rfl
          · simp only [AvRep, AvRep0, hmm']
            refine ⟨by omega, .inr ⟨lc, _, hβ, by congr 1; omega, by omega, fun hlt => ?_⟩⟩
            rw [if_neg (by omega), had (by omega), add_spot rfl, Nat.add_mul]
            simp [Nat.add_assoc]
    · exact hk.elim
  · exact hk.elim

include hT h hd hm in
theorem good_len {t : TypeId} {x : Operand} (ho : o.op = .call { callee := .builtin .len, args := #[x], argTypes := #[t] }) (hk : opLen T m' t (σ.ev x) K) : Good P w0 A locs σ a w o K := by
  have hx := h.ev x
  have hrun : ∀ (v v' : Value), a.eval x = v → (Builtin.len_ #[t] o.type #[v]).run P w = .ok v' w → (execOp a.eval o).run P w = .ok (.value v') w := fun v v' hv hr => by
    simp only [execOp, ho, resolve, invoke, builtin, Sem.run_bind, Sem.run_pure, Result.andThen_ok, List.map_toArray, List.map_cons, List.map_nil, hv, hr]
  unfold opLen at hk
  split at hk
  · rename_i _ _ _ s ht e
    have hu := hT.str ht rfl
    exact h.val hd hk (hrun _ (.int .i64 s.size) (rep_str (h.imm e)) (by simp [Builtin.len_, run_underlying hu, goInt])) (.int _ _)
  · rename_i e _ _ _ rows ht e'
    have hu := hT.slice ht rfl
    obtain ⟨ad, n, c, hv, hn, _⟩ := rep_list (h.imm e')
    subst hn
    exact h.val hd hk (hrun _ (.int .i64 rows.length) hv (by simp [Builtin.len_, run_underlying hu, goInt])) (.int _ _)
  · rename_i e _ _ _ id off len ht e'
    have hu := hT.slice ht rfl
    rw [e'] at hx
    obtain ⟨hlive, hk⟩ := hk
    split at hlive
    · rename_i ty sz rows hmm
      have hmm' := hm _ _ hmm
      simp only [AvRep, AvRep0, hmm'] at hx
      obtain ⟨hle, hx⟩ := hx
      rcases hx with ⟨hβ, hv⟩ | ⟨lc, ad, hβ, hv, _⟩
      · have hob := h.ob id _ hmm'
        obtain ⟨_, _, hob⟩ := hob
        have hrn : rows = [] := by
          rcases hob with ⟨_, hrn⟩ | ⟨lc, cs, hβ', _⟩
          · exact hrn
          · rw [hβ] at hβ'; cases hβ'
        subst hrn
        have e0 : len = 0 := by simp at hle; omega
        subst e0
        exact h.val hd hk (hrun _ (.int .i64 0) hv (by simp [Builtin.len_, run_underlying hu, goInt])) (.int _ _)
      · exact h.val hd hk (hrun _ (.int .i64 len) hv (by simp [Builtin.len_, run_underlying hu, goInt])) (.int _ _)
    · exact hlive.elim
  · rename_i _ n e _ _ _ ht
    have hu := hT.array ht rfl
    exact h.val hd hk (hrun (a.eval x) (.int .i64 n) rfl (by simp [Builtin.len_, run_underlying hu, goInt])) (.int _ _)
  · exact hk.elim

include h hd in
theorem good_max {t t' : TypeId} {x y : Operand} (ho : o.op = .call { callee := .builtin .max, args := #[x, y], argTypes := #[t, t'] }) (hk : opMinMax true (σ.ev x) (σ.ev y) K) : Good P w0 A locs σ a w o K := by
  unfold opMinMax at hk
  split at hk
  · rename_i k n k' n' e e'
    obtain ⟨rfl, hk⟩ := hk
    refine h.val hd hk (v := .int k (if n' > n then n' else n)) ?_ (.int _ _)
    simp [execOp, ho, resolve, invoke, builtin, rep_int (h.imm e), rep_int (h.imm e'), Builtin.max_, Builtin.max2]
  · exact hk.elim
include h hd in
theorem good_min {t t' : TypeId} {x y : Operand} (ho : o.op = .call { callee := .builtin .min, args := #[x, y], argTypes := #[t, t'] }) (hk : opMinMax false (σ.ev x) (σ.ev y) K) : Good P w0 A locs σ a w o K := by
  unfold opMinMax at hk
  split at hk
  · rename_i k n k' n' e e'
    obtain ⟨rfl, hk⟩ := hk
    refine h.val hd hk (v := .int k (if n' < n then n' else n)) ?_ (.int _ _)
    simp [execOp, ho, resolve, invoke, builtin, rep_int (h.imm e), rep_int (h.imm e'), Builtin.min_, Builtin.min2]
  · exact hk.elim

end
end Go.Am
