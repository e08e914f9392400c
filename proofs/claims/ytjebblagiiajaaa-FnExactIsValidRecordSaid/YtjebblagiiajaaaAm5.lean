/- The abstract machine, part 5: each operation that leaves memory alone stands for the model's. -/
import Derived.Test.YtjebblagiiajaaaAm4
namespace Go.Am
open Go

theorem fdiv_toNat {l h : Int} (_ : 0 ≤ l) (_ : l ≤ h) : (h - l).toNat = h.toNat - l.toNat := by omega

section
variable {P : Program} {T : TypeId → Option TI} (hT : TOk P T) {w0 w : World} {A : Nat → Prop} {locs : List (Option Loc)} {β : Nat → Option Loc} {σ : S} {a : Act}
variable (h : Sim w0 A locs β σ a w) {o : Oper} (hd : ∀ d, o.dst = some d → d < σ.n) {K : Eff → Prop} {m' : Nat → Option O} (hm : ∀ id ob, m' id = some ob → σ.m id = some ob)

include h hd in
theorem good_pick {c x y : Operand} (ho : o.op = .pick c x y) (hk : opPick (σ.ev c) (σ.ev x) (σ.ev y) K) : Good P w0 A locs σ a w o K := by
  unfold opPick at hk
  split at hk
  · rename_i t e
    have hc := rep_bool (h.imm e)
    cases t with
    | true => exact h.val hd (hk.1 rfl) (by simp [execOp, ho, hc, asBool]) (h.ev x)
    | false => exact h.val hd (hk.2 rfl) (by simp [execOp, ho, hc, asBool]) (h.ev y)
  · exact hk.elim

theorem run_bool_eq {t t' : TypeId} {x y : Operand} {b b' : Bool} (ho : o.op = .binOp .eql t x y t') (hx : a.eval x = .bool b) (hy : a.eval y = .bool b') (hu : P.underlying t = some .bool) :
    (execOp a.eval o).run P w = .ok (.value (.bool (b == b'))) w := by
  have e1 : ∀ w : World, (Op.equal t (.bool b) (.bool b')).run P w = .ok (b == b') w := fun w => run_equalIn_bool' w 9999 t b b' hu
  have e2 : binOp .eql t (.bool b) (.bool b') = (do pure (.bool (← Op.equal t (.bool b) (.bool b')))) := rfl
  unfold execOp
  simp only [ho, hx, hy, eqGuard_at_bool, e2, Sem.run_bind, Sem.run_pure, Result.andThen_ok, e1]
theorem run_bool_ne {t t' : TypeId} {x y : Operand} {b b' : Bool} (ho : o.op = .binOp .neq t x y t') (hx : a.eval x = .bool b) (hy : a.eval y = .bool b') (hu : P.underlying t = some .bool) :
    (execOp a.eval o).run P w = .ok (.value (.bool (!(b == b')))) w := by
  have e1 : ∀ w : World, (Op.equal t (.bool b) (.bool b')).run P w = .ok (b == b') w := fun w => run_equalIn_bool' w 9999 t b b' hu
  have e2 : binOp .neq t (.bool b) (.bool b') = (do pure (.bool (!(← Op.equal t (.bool b) (.bool b'))))) := rfl
  unfold execOp
  simp only [ho, hx, hy, eqGuard_at_bool, e2, Sem.run_bind, Sem.run_pure, Result.andThen_ok, e1]

include hT h hd in
theorem good_bin {op : BinOp} {t t' : TypeId} {x y : Operand} (ho : o.op = .binOp op t x y t') (hk : opBin T op t (σ.ev x) (σ.ev y) K) : Good P w0 A locs σ a w o K := by
  unfold opBin at hk
  split at hk
  · rename_i b b' e e'
    have hx := rep_bool (h.imm e)
    have hy := rep_bool (h.imm e')
    split at hk
    · rename_i ht
      have hu : P.underlying t = some .bool := by
        have hc := hT.desc ht
        unfold chkD at hc
        cases hu : P.underlying t with
        | none => simp [hu] at hc
        | some d => cases d <;> simp [hu] at hc; rfl
      exact h.val hd hk (v := .bool (b == b')) (run_bool_eq (t' := t') ho hx hy hu) (.bool _)
    · rename_i ht
      have hu : P.underlying t = some .bool := by
        have hc := hT.desc ht
        unfold chkD at hc
        cases hu : P.underlying t with
        | none => simp [hu] at hc
        | some d => cases d <;> simp [hu] at hc; rfl
      exact h.val hd hk (v := .bool (!(b == b'))) (run_bool_ne (t' := t') ho hx hy hu) (.bool _)
    · exact hk.elim
  · rename_i d d' _ e e'
    obtain ⟨v, r, hK, hr, hrun⟩ := binK_run (P := P) (t := t) (xo := x) (yo := y) op (h.imm e) (h.imm e') hk
    refine h.val hd hK (v := v) ?_ hr
    unfold execOp
    simp only [ho]
    rw [Sem.run_bind, hrun]
    rfl
  · exact hk.elim

include h hd in
theorem good_un {op : UnOp} {t : TypeId} {x : Operand} (ho : o.op = .unOp op t x) (hk : opUn op (σ.ev x) K) : Good P w0 A locs σ a w o K := by
  unfold opUn at hk
  split at hk
  · rename_i b e
    exact h.val hd hk (v := .bool (!b)) (by simp [execOp, ho, rep_bool (h.imm e), Op.unary]) (.bool _)
  · rename_i k n e
    exact h.val hd hk (v := .int k (k.wrap (0 - n))) (by simp [execOp, ho, rep_int (h.imm e), Op.unary, Op.intArith]) (.int _ _)
  · exact hk.elim

include hT h hd in
theorem good_conv {src dst : TypeId} {x : Operand} (ho : o.op = .convert src dst x) (hk : opConv T src dst (σ.ev x) K) : Good P w0 A locs σ a w o K := by
  unfold opConv at hk
  split at hk
  · rename_i ti k _ _ _ k' n hs ht e
    have hu := hT.int ht rfl
    have hs' : ∃ d, P.underlying src = some d := by
      have hc := hT.desc hs
      unfold chkD at hc
      cases hu : P.underlying src with
      | none => simp [hu] at hc
      | some d => exact ⟨d, rfl⟩
    obtain ⟨ds, hs'⟩ := hs'
    exact h.val hd hk (v := .int k (k.wrap n)) (by simp [execOp, ho, rep_int (h.imm e), convert, run_underlying hs', run_underlying hu, Conv.intToInt]) (.int _ _)
  · rename_i ti _ _ _ s hs ht e
    have hu := hT.str ht rfl
    have hs' : ∃ d, P.underlying src = some d := by
      have hc := hT.desc hs
      unfold chkD at hc
      cases hu : P.underlying src with
      | none => simp [hu] at hc
      | some d => exact ⟨d, rfl⟩
    obtain ⟨ds, hs'⟩ := hs'
    exact h.val hd hk (v := .string s) (by simp [execOp, ho, rep_str (h.imm e), convert, run_underlying hs', run_underlying hu]) (.str _)
  · exact hk.elim

include h hd in
theorem good_extract {x : Operand} {i : Nat} (ho : o.op = .extract x i) (hk : opExtract (σ.ev x) i K) : Good P w0 A locs σ a w o K := by
  unfold opExtract at hk
  split at hk
  · rename_i l e
    have hx := h.ev x
    rw [e] at hx
    obtain ⟨vs, hv, hs, hi⟩ := hx
    split at hk
    · exact hk.elim
    · rename_i av _ hl
      have hlt : i < vs.size := by rw [hs]; exact (List.getElem?_eq_some_iff.1 hl).1
      refine h.val hd hk (v := vs.getD i Go.undef) ?_ ?_
      · have e1 := getD_of hlt
        simp only [execOp, ho, hv, Instr.extract, e1, Sem.run_bind, Sem.run_pure, Result.andThen_ok]
      · have := hi i av hl
        cases av with
        | tup l' => exact this.elim
        | _ => exact this
    · exact hk.elim
  · exact hk.elim

theorem run_part {t : TypeId} (cs : Array Value) (off n : Nat) (b : Bool) (hs : (P.info? t).map (·.size) = some n) (hag : aggB P t = some b) (hb : b = false → off < cs.size) (w : World) :
    (part t cs off).run P w = .ok (if b then .agg (cs.extract off (off + n)) else cs.getD off Go.undef) w := by
  have hsz : (sizeOf t).run P w = .ok n w := by
    cases hi : P.info? t with
    | none => simp [hi] at hs
    | some i => simp [hi] at hs; simp [sizeOf, typeInfo, hi, hs]
  have hag' : (isAgg t).run P w = .ok b w := by
    unfold aggB at hag
    unfold isAgg
    cases hu : P.underlying t with
    | none => simp [hu] at hag
    | some d =>
      simp only [Sem.run_bind, run_underlying hu, Result.andThen_ok]
      cases d <;> simp [hu] at hag ⊢ <;> exact hag
  unfold part
  simp only [Sem.run_bind, hag', Result.andThen_ok]
  cases b with
  | true => simp [hsz]
  | false =>
    have e1 := getD_of (hb rfl)
    simp only [Bool.false_eq_true, if_false, e1, Sem.run_pure]

theorem extract_getD (cs : Array Value) (o n j : Nat) (hj : j < n) (hl : o + n ≤ cs.size) : (cs.extract o (o + n)).getD j Go.undef = cs.getD (o + j) Go.undef := by
  simp only [Array.getD_eq_getD_getElem?, Array.getElem?_extract]
  rw [if_pos (by omega)]

theorem rep_agg {B : Nat → Prop} {v : Value} {ds : List D} (hr : Rep w B v (.agg ds)) : ∃ vs : Array Value, v = .agg vs ∧ vs.size = ds.length ∧ ∀ (j : Nat) (d : D), ds[j]? = some d → Rep w B (vs.getD j Go.undef) d := by
  cases hr with
  | agg vs ds hs hj => exact ⟨vs, rfl, hs, hj⟩

theorem rep_part {B : Nat → Prop} {vs : Array Value} {ds : List D} (hs : vs.size = ds.length) (hj : ∀ (j : Nat) (d : D), ds[j]? = some d → Rep w B (vs.getD j Go.undef) d) (o n : Nat) (hl : o + n ≤ ds.length) :
    Rep w B (.agg (vs.extract o (o + n))) (.agg ((ds.drop o).take n)) := by
  refine .agg _ _ (by simp [hs]; omega) fun j d hjd => ?_
  rw [List.getElem?_take] at hjd
  split at hjd
  · rename_i hjn
    rw [List.getElem?_drop] at hjd
    rw [extract_getD vs o n j hjn (by omega)]
    exact hj _ _ hjd
  · cases hjd

theorem rep_ptr {B : Nat → Prop} {v : Value} {ds : List D} (hr : Rep w B v (.ptr ds)) : ∃ (ad : Addr) (g : Nat → Value), v = .pointer (some ad) ∧ ad.block < w.heap.size ∧ ¬ B ad.block ∧ ad.spot = none ∧
    (∀ (j : Nat) (d : D), ds[j]? = some d → w.cell? (ad.add j) = some (g j)) ∧ (∀ (j : Nat) (d : D), ds[j]? = some d → Rep w B (g j) d) := by
  cases hr with
  | ptr ad ds g hb hB hs hc hr => exact ⟨ad, g, rfl, hb, hB, hs, hc, hr⟩

theorem rep_ptr_mk {B : Nat → Prop} {ad : Addr} {ds : List D} {g : Nat → Value} (hb : ad.block < w.heap.size) (hB : ¬ B ad.block) (hs : ad.spot = none)
    (hc : ∀ (j : Nat) (d : D), ds[j]? = some d → w.cell? (ad.add j) = some (g j)) (hr : ∀ (j : Nat) (d : D), ds[j]? = some d → Rep w B (g j) d) (n : Nat) :
    Rep w B (.pointer (some (ad.add n))) (.ptr (ds.drop n)) := by
  refine Rep.ptr (ad.add n) (ds.drop n) (fun j => g (n + j)) (by rw [block_add]; exact hb) (by rw [block_add]; exact hB) (by rw [add_spot hs]) ?_ ?_
  · intro j d hj
    rw [List.getElem?_drop] at hj
    rw [add_add]; exact hc _ _ hj
  · intro j d hj
    rw [List.getElem?_drop] at hj
    exact hr _ _ hj

include hT h hd in
theorem good_field {t : TypeId} {x : Operand} {f : Nat} (ho : o.op = .field t x f) (hk : opField T t (σ.ev x) f K) : Good P w0 A locs σ a w o K := by
  unfold opField at hk
  split at hk
  · rename_i fs _ _ _ ds ht e
    obtain ⟨vs, hv, hs, hj⟩ := rep_agg (h.imm e)
    obtain ⟨fields, hu, hf⟩ := hT.struct ht rfl
    split at hk
    · rename_i off n hfs
      obtain ⟨fd, h1, h2, h3, h4, h5⟩ := hf f _ hfs
      refine h.val hd hk.2 (v := .agg (vs.extract off (off + n))) ?_ (rep_part hs hj off n hk.1)
      have hp := run_part (P := P) vs fd.offset n true h3 h5 (fun e => by cases e) w
      simp only [h2, if_true] at hp
      simp [execOp, ho, hv, Instr.field, run_underlying hu, h1, asAgg, h2, hp]
    · rename_i off n hfs
      obtain ⟨fd, h1, h2, h3, h4, h5⟩ := hf f _ hfs
      split at hk
      · rename_i d hd'
        have hlt : off < vs.size := by rw [hs]; exact (List.getElem?_eq_some_iff.1 hd').1
        refine h.val hd hk (v := vs.getD off Go.undef) ?_ (hj off d hd')
        have hp := run_part (P := P) vs fd.offset n false h3 h5 (fun _ => by rw [h2]; exact hlt) w
        simp only [h2, Bool.false_eq_true, if_false] at hp
        simp only [execOp, ho, hv, Instr.field, Sem.run_bind, run_underlying hu, Result.andThen_ok, h1, asAgg, Sem.run_pure, h2, hp]
      · exact hk.elim
    · exact hk.elim
  · exact hk.elim

include hT h hd hm in
theorem good_fieldAddr {t : TypeId} {x : Operand} {f : Nat} (ho : o.op = .fieldAddr t x f) (hk : opFieldAddr T m' t (σ.ev x) f K) : Good P w0 A locs σ a w o K := by
  unfold opFieldAddr at hk
  split at hk
  · rename_i fs _ _ _ ht
    obtain ⟨fields, hu, hf⟩ := hT.struct ht rfl
    split at hk
    · rename_i off n b hfs
      obtain ⟨fd, h1, h2, h3, h4, h5⟩ := hf f _ hfs
      have hsz : ∀ w : World, (sizeOf fd.type).run P w = .ok n w := fun w => by
        cases hi : P.info? fd.type with
        | none => simp [hi] at h3
        | some i => simp [hi] at h3; simp [sizeOf, typeInfo, hi, h3]
      have hrun : ∀ ad : Addr, a.eval x = .pointer (some ad) → (execOp a.eval o).run P w = .ok (.value (.pointer (some (ad.add off)))) w := fun ad hx => by
        have h4' : ¬ n = 0 := h4
        simp [execOp, ho, hx, Instr.fieldAt, run_underlying hu, h1, Instr.sureAddr, fieldPlace, hsz, h4', h2]
      have hx := h.ev x
      split at hk
      · rename_i id o' e
        rw [e] at hx
        split at hk
        · rename_i ty cells hmm
          have hmm' := hm _ _ hmm
          simp only [AvRep, AvRep0, BoxAt, hmm'] at hx
          obtain ⟨l, hl, hv⟩ := hx
          refine h.val hd hk (hrun _ hv) ?_
          simp only [AvRep, AvRep0, BoxAt, hmm']
          exact ⟨l, hl, by rw [add_spot rfl]⟩
        · exact hk.elim
      · rename_i id r o' e
        rw [e] at hx
        split at hk
        · rename_i ty sz rows hmm
          have hmm' := hm _ _ hmm
          simp only [AvRep, AvRep0, hmm'] at hx
          obtain ⟨hr, l, hl, hv⟩ := hx
          refine h.val hd hk (hrun _ hv) ?_
          simp only [AvRep, AvRep0, hmm']
          exact ⟨hr, l, hl, by rw [add_spot rfl]; simp [Nat.add_assoc]⟩
        · exact hk.elim
      · rename_i ds e
        rw [e] at hx
        obtain ⟨ad, g, hxe, hb, hB, hs, hc, hr⟩ := rep_ptr hx
        exact h.val hd hk (hrun ad hxe) (rep_ptr_mk hb hB hs hc hr off)
      · exact hk.elim
    · exact hk.elim
  · exact hk.elim

theorem rep_list {B : Nat → Prop} {v : Value} {rows : List (List D)} (hr : Rep w B v (.list rows)) :
    ∃ ad n c, v = .slice ad n c ∧ n = rows.length ∧ (0 < n → ∃ (b : Addr) (sz : Nat) (g : Nat → Value), ad = some b ∧ n ≤ c ∧ (∀ r ∈ rows, r.length = sz) ∧ b.block < w.heap.size ∧ ¬ B b.block ∧ b.spot = none ∧
      (∀ (j : Nat) (d : D), rows.flatten[j]? = some d → w.cell? (b.add j) = some (g j)) ∧ (∀ (j : Nat) (d : D), rows.flatten[j]? = some d → Rep w B (g j) d)) := by
  cases hr with
  | nil a c => exact ⟨a, 0, c, rfl, rfl, fun h => by omega⟩
  | list ad n c rows sz g hn hc hr hb hB hs hcell hrep => exact ⟨some ad, n, c, rfl, hn, fun _ => ⟨ad, sz, g, rfl, hc, hr, hb, hB, hs, hcell, hrep⟩⟩

/-- Row i, cell j of rows of one size. -/
theorem flat_at {α : Type} {sz : Nat} : ∀ (rows : List (List α)), (∀ r ∈ rows, r.length = sz) → ∀ (i : Nat) (r : List α), rows[i]? = some r → ∀ (j : Nat) (x : α), r[j]? = some x → rows.flatten[i * sz + j]? = some x
  | [], _, i, r, hi, _, _, _ => by simp at hi
  | r0 :: rows, hsz, 0, r, hi, j, x, hx => by
    simp at hi; subst hi
    have hj : j < r0.length := (List.getElem?_eq_some_iff.1 hx).1
    rw [List.flatten_cons, Nat.zero_mul, Nat.zero_add, List.getElem?_append_left hj]
    exact hx
  | r0 :: rows, hsz, i + 1, r, hi, j, x, hx => by
    have h0 : r0.length = sz := hsz r0 (by simp)
    rw [List.flatten_cons, List.getElem?_append_right (by rw [h0, Nat.succ_mul]; omega), h0]
    rw [show (i + 1) * sz + j - sz = i * sz + j from by rw [Nat.succ_mul]; omega]
    exact flat_at rows (fun r hr => hsz r (by simp [hr])) i r (by simpa using hi) j x hx

theorem flat_drop {α : Type} {sz : Nat} : ∀ (rows : List (List α)), (∀ r ∈ rows, r.length = sz) → ∀ i, (rows.drop i).flatten = rows.flatten.drop (i * sz)
  | [], _, i => by simp
  | r0 :: rows, hsz, 0 => by simp
  | r0 :: rows, hsz, i + 1 => by
    have h0 : r0.length = sz := hsz r0 (by simp)
    rw [List.drop_succ_cons, flat_drop rows (fun r hr => hsz r (by simp [hr])) i, List.flatten_cons, List.drop_append, h0, Nat.succ_mul]
    rw [List.drop_eq_nil_of_le (show r0.length ≤ i * sz + sz by omega), List.nil_append]
    congr 1
    omega

theorem flat_len {α : Type} {sz : Nat} : ∀ (rows : List (List α)), (∀ r ∈ rows, r.length = sz) → rows.flatten.length = rows.length * sz
  | [], _ => by simp
  | r0 :: rows, hsz => by
    rw [List.flatten_cons, List.length_append, flat_len rows (fun r hr => hsz r (by simp [hr])), hsz r0 (by simp), List.length_cons, Nat.succ_mul]
    omega

theorem flat_take {α : Type} {sz : Nat} (rows : List (List α)) (hsz : ∀ r ∈ rows, r.length = sz) (i : Nat) : (rows.take i).flatten = rows.flatten.take (i * sz) := by
  have h1 := List.take_append_drop i rows
  have h2 : rows.flatten = (rows.take i).flatten ++ (rows.drop i).flatten := by rw [← List.flatten_append, h1]
  by_cases hi : i ≤ rows.length
  · have h3 : (rows.take i).flatten.length = i * sz := by
      rw [flat_len (sz := sz) _ (fun r hr => hsz r (List.mem_of_mem_take hr)), List.length_take, Nat.min_eq_left hi]
    rw [h2]
    exact (List.take_left' h3).symm
  · rw [List.take_of_length_le (show rows.length ≤ i by omega), List.take_of_length_le]
    rw [flat_len rows hsz]
    exact Nat.mul_le_mul_right _ (by omega)

include hT h hd hm in
theorem good_indexAddr {t : TypeId} {x i : Operand} (ho : o.op = .indexAddr t x i) (hk : opIndexAddr T m' t (σ.ev x) (σ.ev i) K) : Good P w0 A locs σ a w o K := by
  unfold opIndexAddr at hk
  split at hk
  · rename_i k n ei
    have hi := rep_int (h.imm ei)
    have hx := h.ev x
    split at hk
    · rename_i e _ _ _ ht
      have hu := hT.slice ht rfl
      split at hk
      · rename_i te hte
        have hsz : ∀ w : World, (sizeOf e).run P w = .ok te.size w := fun w => hT.sizeOf hte w
        have hrun : ∀ (ad : Addr) (len cap : Nat), a.eval x = .slice (some ad) len cap → 0 ≤ n → n < len → (execOp a.eval o).run P w = .ok (.value (.pointer (some (ad.add (n.toNat * te.size))))) w := fun ad len cap hv h0 h1 => by
          simp [execOp, ho, hv, hi, Instr.indexAt, asIntOf, run_underlying hu, h0, h1, hsz]
        split at hk
        · rename_i rows e'
          rw [e'] at hx
          obtain ⟨h0, hk⟩ := hk
          split at hk
          · rename_i r hr
            obtain ⟨ad, len, c, hv, hl, hrest⟩ := rep_list hx
            have hlt : n.toNat < rows.length := (List.getElem?_eq_some_iff.1 hr).1
            obtain ⟨b, sz, g, rfl, hc, hrows, hb, hB, hs, hcell, hrep⟩ := hrest (by omega)
            have hrs : r.length = sz := hrows r (List.mem_of_getElem? hr)
            have hsz' : te.size = sz := by rw [← hk.1, hrs]
            refine h.val hd hk.2 (hrun b len c hv h0 (by omega)) ?_
            refine Rep.ptr _ _ (fun j => g (n.toNat * te.size + j)) (by rw [block_add]; exact hb) (by rw [block_add]; exact hB) (by rw [add_spot hs]) ?_ ?_
            · intro j d hj
              rw [add_add, hsz']
              exact hcell _ d (flat_at rows hrows _ r hr j d hj)
            · intro j d hj
              rw [hsz']
              exact hrep _ d (flat_at rows hrows _ r hr j d hj)
          · exact hk.elim
        · rename_i id off len e'
          rw [e'] at hx
          obtain ⟨h0, h1, hk⟩ := hk
          split at hk
          · rename_i ty sz rows hmm
            have hmm' := hm _ _ hmm
            simp only [AvRep, AvRep0, hmm'] at hx
            obtain ⟨hle, hx⟩ := hx
            rcases hx with ⟨hβ, hv⟩ | ⟨l, ad, hβ, hv, hot, had⟩
            · have hob := h.ob id _ hmm'
              obtain ⟨_, _, hob⟩ := hob
              rcases hob with ⟨_, hrn⟩ | ⟨l, cs, hβ', _⟩
              · subst hrn; simp at hle; omega
              · rw [hβ] at hβ'; cases hβ'
            · have hob := h.ob id _ hmm'
              obtain ⟨_, _, hob⟩ := hob
              rcases hob with ⟨hβ', _⟩ | ⟨l', cs, hβ', _, _, hrt, _⟩
              · rw [hβ] at hβ'; cases hβ'
              · rw [hβ] at hβ'; injection hβ' with hβ'; subst hβ'
                have had := had (by omega)
                refine h.val hd hk.2 (hrun ad len _ hv h0 (by omega)) ?_
                simp only [AvRep, AvRep0, hmm']
                refine ⟨by omega, l, hβ, ?_⟩
                rw [had, add_spot rfl, hk.1, Nat.add_mul]
                simp [Nat.add_assoc]
          · exact hk.elim
        · exact hk.elim
      · exact hk.elim
    · rename_i len e _ _ _ ht
      have hu := hT.array ht rfl
      split at hk
      · rename_i te hte
        have hsz : ∀ w : World, (sizeOf e).run P w = .ok te.size w := fun w => hT.sizeOf hte w
        have hrun : ∀ (ad : Addr), a.eval x = .pointer (some ad) → 0 ≤ n → n < len → (execOp a.eval o).run P w = .ok (.value (.pointer (some (ad.add (n.toNat * te.size))))) w := fun ad hv h0 h1 => by
          simp [execOp, ho, hv, hi, Instr.indexAt, asIntOf, run_underlying hu, h0, h1, hsz, Instr.sureAddr]
        split at hk
        · rename_i id off e'
          rw [e'] at hx
          obtain ⟨h0, h1, hk⟩ := hk
          split at hk
          · rename_i ty cells hmm
            have hmm' := hm _ _ hmm
            simp only [AvRep, AvRep0, BoxAt, hmm'] at hx
            obtain ⟨l, hl, hv⟩ := hx
            refine h.val hd hk (hrun _ hv h0 h1) ?_
            simp only [AvRep, AvRep0, BoxAt, hmm']
            exact ⟨l, hl, by rw [add_spot rfl]⟩
          · exact hk.elim
        · rename_i ds e'
          rw [e'] at hx
          obtain ⟨ad, g, hv, hb, hB, hs, hc, hr⟩ := rep_ptr hx
          exact h.val hd hk.2.2 (hrun ad hv hk.1 hk.2.1) (rep_ptr_mk hb hB hs hc hr _)
        · exact hk.elim
      · exact hk.elim
    · exact hk.elim
  · exact hk.elim

include hT h hd in
theorem good_index {t : TypeId} {x i : Operand} (ho : o.op = .index t x i) (hk : opIndex T t (σ.ev x) (σ.ev i) K) : Good P w0 A locs σ a w o K := by
  unfold opIndex at hk
  split at hk
  · rename_i k n ei
    have hi := rep_int (h.imm ei)
    split at hk
    · rename_i _ _ _ s ht e
      have hu := hT.str ht rfl
      have hx := rep_str (h.imm e)
      obtain ⟨h0, hk⟩ := hk
      split at hk
      · rename_i b hb
        exact h.val hd hk (v := .int .u8 b.toNat) (by simp [execOp, ho, hx, hi, Instr.index, asIntOf, run_underlying hu, h0, hb]) (.int _ _)
      · exact hk.elim
    · rename_i len e _ _ _ ds ht e'
      have hu := hT.array ht rfl
      obtain ⟨vs, hv, hs, hj⟩ := rep_agg (h.imm e')
      split at hk
      · rename_i te hte
        have hsz : ∀ w : World, (sizeOf e).run P w = .ok te.size w := fun w => hT.sizeOf hte w
        have hag : ∀ w : World, (isAgg e).run P w = .ok te.agg w := fun w => hT.isAgg hte w
        obtain ⟨h0, h1, hk⟩ := hk
        split at hk
        · rename_i hagt
          refine h.val hd hk.2 (v := .agg (vs.extract (n.toNat * te.size) (n.toNat * te.size + te.size))) ?_ (rep_part hs hj _ _ hk.1)
          simp [execOp, ho, hv, hi, Instr.index, asIntOf, run_underlying hu, h0, h1, hsz, part, hag, hagt]
        · rename_i hagf
          split at hk
          · rename_i d hd'
            have hlt : n.toNat * te.size < vs.size := by rw [hs]; exact (List.getElem?_eq_some_iff.1 hd').1
            refine h.val hd hk (v := vs.getD (n.toNat * te.size) Go.undef) ?_ (hj _ d hd')
            have e1 := getD_of hlt
            simp only [execOp, ho, hv, hi, Instr.index, asIntOf, Sem.run_bind, Sem.run_pure, Result.andThen_ok, run_underlying hu, h0, h1, and_self, if_true, hsz, part, hag, hagf, Bool.false_eq_true, if_false, e1]
          · exact hk.elim
      · exact hk.elim
    · exact hk.elim
  · exact hk.elim

end
end Go.Am
