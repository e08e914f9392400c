/- What survives of a log: both walks of CrashLog, and the law. -/
import Derived.Test.YtnndgejlkljlaaaDoorD8
import Derived.Test.YtnndgejlkljlaaaDoorAmL
namespace Go.Proofs.YtnndgejlkljlaaaDoor
open Go Go.Am Go.Lg
set_option maxRecDepth 100000
set_option maxHeartbeats 4000000
attribute [local irreducible] amOps amC opCall opIndexAddr opPick retQ opMake opStore amDraw opAppend opLoad opNilCmp opIndex opSlice

def flip8 (b : UInt8) : UInt8 := UInt8.ofNat (255 - b.toNat)
theorem flip_val (b : UInt8) : IntKind.u8.wrap (255 - (b.toNat : Int)) = ((255 - b.toNat : Nat) : Int) := by
  have := b.toNat_lt
  rw [IntKind.wrap_u8]; omega

def bl (l : List UInt8) : List Int := l.map fun b => (b.toNat : Int)
theorem rowsB_str (l : List UInt8) (n : Nat) (hn : n = l.length) : rowsB (((l.map fun b => [D.int .u8 (b.toNat : Int)]).drop 0).take n) = some (bl l) := by
  subst hn
  rw [List.drop_zero, List.take_of_length_le (by simp)]
  have := rowsB_rows (l.map fun b => (b.toNat : Int))
  rw [List.map_map] at this
  exact this
theorem rowsB_full (l : List UInt8) : rowsB (((strRows (ofL l)).drop 0).take (ofL l).size) = some (bl l) := by
  rw [strRows_ofL, ofL_size]; exact rowsB_str l _ rfl
theorem bytesOf_str (l : List UInt8) : bytesOf (bl l) = ofL l := by
  unfold bl
  rw [bytesOf_ofL, List.map_map]
  congr 1
  have : ((fun n : Int => UInt8.ofNat n.toNat) ∘ fun b : UInt8 => (b.toNat : Int)) = id := by funext b; simp
  rw [this, List.map_id]
theorem bytesOf_flip (b : UInt8) : bytesOf [IntKind.u8.wrap (255 - (b.toNat : Int))] = ofL [flip8 b] := by
  rw [flip_val, bytesOf_ofL]; rfl

/-- What is kept of the pending part. -/
def keptL (l : LogV) (k : Nat) (torn : Bool) : List UInt8 :=
  if torn = true ∧ 0 < k then l.p.take (k - 1) ++ [flip8 (l.p.getD (k - 1) 0)] else l.p.take k
def crashOk (l : LogV) (k : Int) : Bool := validB l && inR k 0 ((ofL l.p).size : Int)
def crashR (l : LogV) (k : Int) (torn : Bool) : List UInt8 := if crashOk l k then l.d ++ keptL l k.toNat torn else []

theorem crash_no {l : LogV} {k : Int} {torn : Bool} (h : crashOk l k = false) : crashR l k torn = [] := by unfold crashR; rw [h]; rfl
theorem crash_plain {l : LogV} {k : Nat} {torn : Bool} (h : crashOk l k = true) (ht : ¬ (torn = true ∧ 0 < k)) : crashR l k torn = l.d ++ l.p.take k := by
  unfold crashR keptL; rw [if_pos h, Int.toNat_natCast, if_neg ht]
theorem crash_torn {l : LogV} {q r : List UInt8} {b : UInt8} (hp : l.p = q ++ b :: r) (h : crashOk l ((q.length + 1 : Nat) : Int) = true) : crashR l ((q.length + 1 : Nat) : Int) true = l.d ++ (q ++ [flip8 b]) := by
  unfold crashR keptL
  rw [if_pos h, Int.toNat_natCast, if_pos ⟨rfl, by omega⟩, hp]
  simp

theorem c7 (l : LogV) (hf : l.fit) (k : Int) (torn : Bool) : CallOk Tryd.prog 7 [.imm (.agg l.enc), .imm (.int .i64 k), .imm (.bool torn)] { res := [.imm (.str (ofL (crashR l k torn))), .imm (.bool (crashOk l k))] } := by
  refine callOk_of tyOk Tryd.func7 rfl rfl (le_of_ble rfl) (le_of_ble rfl) (mutOk_imm rfl _) ?_
  have hv := c10 l hf
  have hi := c11 k 0 ((ofL l.p).size : Int)
  obtain ⟨hf1, hf2⟩ := hf
  cases h1 : validB l with
  | false =>
    rw [h1] at hv
    have h0 : crashOk l k = false := by unfold crashOk; rw [h1]; rfl
    rw [h0, crash_no h0]
    repeat' first | refine go_seq ?_ | refine go_region ?_ | refine go_miss rfl rfl rfl ?_ | refine go_undef rfl rfl rfl ?_ | refine go_draw drawsOk ?_ | ((first | refine go_op rfl ?_ | refine go_nil ?_ | refine go_hit rfl rfl rfl ?_ | refine go_splitT rfl rfl rfl (fun h => ?_) (fun h => ?_) | refine go_splitF rfl rfl rfl (fun h => ?_) (fun h => ?_) | refine go_dop rfl ?_ | refine go_dhit rfl rfl ?_ | refine go_dmiss rfl rfl ?_ | refine go_dundef rfl rfl ?_ | refine go_dend (by kernel_rfl) ?_ | refine go_pickT rfl ?_ | refine go_pickF rfl ?_ | refine go_pick rfl (fun h => ?_) (fun h => ?_) | refine go_call [] (hv) rfl rfl rfl rfl ?_) <;> conv => whnf) | ((first | refine go_dsplit2 rfl (fun h => ?_) (fun h => ?_) | refine go_loadB ?_ | refine ⟨by kernel_rfl, ?_⟩ | refine go_ret ?_) <;> conv => whnf) | ((first | refine go_skip ?_) <;> conv => whnf) | refine go_true rfl ?_ | refine go_false rfl ?_ | refine go_cond rfl (fun h => ?_) (fun h => ?_) | refine ⟨rfl, ?_⟩ | ((first | refine ⟨trivial, ?_⟩ | refine ⟨le_of_ble rfl, ?_⟩) <;> conv => whnf) | fail
    all_goals exact ret_imm2 rfl rfl rfl rfl rfl rfl rfl rfl
  | true =>
    rw [h1] at hv
    cases h2 : inR k 0 ((ofL l.p).size : Int) with
    | false =>
      rw [h2] at hi
      have h0 : crashOk l k = false := by unfold crashOk; rw [h1, h2]; rfl
      rw [h0, crash_no h0]
      repeat' first | refine go_seq ?_ | refine go_region ?_ | refine go_miss rfl rfl rfl ?_ | refine go_undef rfl rfl rfl ?_ | refine go_draw drawsOk ?_ | ((first | refine go_op rfl ?_ | refine go_nil ?_ | refine go_hit rfl rfl rfl ?_ | refine go_splitT rfl rfl rfl (fun h => ?_) (fun h => ?_) | refine go_splitF rfl rfl rfl (fun h => ?_) (fun h => ?_) | refine go_dop rfl ?_ | refine go_dhit rfl rfl ?_ | refine go_dmiss rfl rfl ?_ | refine go_dundef rfl rfl ?_ | refine go_dend (by kernel_rfl) ?_ | refine go_pickT rfl ?_ | refine go_pickF rfl ?_ | refine go_pick rfl (fun h => ?_) (fun h => ?_) | refine go_call [] (hv) rfl rfl rfl rfl ?_ | refine go_call [] (hi) rfl rfl rfl rfl ?_) <;> conv => whnf) | ((first | refine go_dsplit2 rfl (fun h => ?_) (fun h => ?_) | refine go_loadB ?_ | refine ⟨by kernel_rfl, ?_⟩ | refine go_ret ?_) <;> conv => whnf) | ((first | refine go_skip ?_) <;> conv => whnf) | refine go_true rfl ?_ | refine go_false rfl ?_ | refine go_cond rfl (fun h => ?_) (fun h => ?_) | refine ⟨rfl, ?_⟩ | ((first | refine ⟨trivial, ?_⟩ | refine ⟨le_of_ble rfl, ?_⟩) <;> conv => whnf) | fail
      all_goals exact ret_imm2 rfl rfl rfl rfl rfl rfl rfl rfl
    | true =>
      rw [h2] at hi
      have h0 : crashOk l k = true := by unfold crashOk; rw [h1, h2]; rfl
      rw [ofL_size] at h2
      simp only [inR, Bool.and_eq_true, decide_eq_true_eq] at h2
      obtain ⟨n, rfl⟩ : ∃ n : Nat, k = n := ⟨k.toNat, by omega⟩
      by_cases h3 : torn = true ∧ 0 < n
      · obtain ⟨h3, h4⟩ := h3
        subst h3
        obtain ⟨q, b, r, hp, hn⟩ : ∃ (q : List UInt8) (b : UInt8) (r : List UInt8), l.p = q ++ b :: r ∧ n = q.length + 1 := by
          refine ⟨l.p.take (n - 1), l.p[n - 1]'(by omega), l.p.drop n, ?_, by rw [List.length_take]; omega⟩
          have := List.take_append_drop (n - 1) l.p
          rw [List.drop_eq_getElem_cons (by omega)] at this
          rw [show n - 1 + 1 = n from by omega] at this
          exact this.symm
        subst hn
        have hpl : l.p.length = q.length + 1 + r.length := by rw [hp]; simp; omega
        have hq : (l.p.drop 0).take (q.length + 1 - 0) = q ++ [b] := by
          rw [hp, List.drop_zero, Nat.sub_zero, show q ++ b :: r = (q ++ [b]) ++ r from by simp]
          exact List.take_left' (by simp)
        have hw : IntKind.i64.wrap (((q.length + 1 : Nat) : Int) - 1) = (q.length : Int) := by rw [wrap_small (by omega) (by omega)]; omega
        have hg : decide (((q.length + 1 : Nat) : Int) > 0) = true := by simp
        rw [h0, crash_torn hp h0]
        repeat' first | refine go_seq ?_ | refine go_region ?_ | refine go_miss rfl rfl rfl ?_ | refine go_undef rfl rfl rfl ?_ | refine go_draw drawsOk ?_ | ((first | refine go_op rfl ?_ | refine go_nil ?_ | refine go_hit rfl rfl rfl ?_ | refine go_splitT rfl rfl rfl (fun h => ?_) (fun h => ?_) | refine go_splitF rfl rfl rfl (fun h => ?_) (fun h => ?_) | refine go_dop rfl ?_ | refine go_dhit rfl rfl ?_ | refine go_dmiss rfl rfl ?_ | refine go_dundef rfl rfl ?_ | refine go_dend (by kernel_rfl) ?_ | refine go_pickT rfl ?_ | refine go_pickF rfl ?_ | refine go_pick rfl (fun h => ?_) (fun h => ?_) | refine go_call [] (hv) rfl rfl rfl rfl ?_ | refine go_call [] (hi) rfl rfl rfl rfl ?_ | refine go_sliceR 0 (q.length + 1) (q ++ [b]) rfl rfl rfl rfl (by omega) (by omega) hq ?_ | refine go_sliceR 0 q.length q rfl rfl rfl (by show some _ = _; rw [hw]) (by omega) (by simp) (by simp) ?_ | refine go_idxStr (b := b) rfl rfl rfl (by rw [hw]; omega) (by show (q ++ [b])[(IntKind.i64.wrap (((q.length + 1 : Nat) : Int) - 1)).toNat]? = _; rw [hw]; simp) ?_ | refine ⟨by show (ofL q).size + (bytesOf [IntKind.u8.wrap (255 - (b.toNat : Int))]).size ≤ _; rw [bytesOf_flip, ofL_size, ofL_size]; simp; omega, ?_⟩ | refine ⟨by show (ofL l.d).size + (ofL q ++ bytesOf [IntKind.u8.wrap (255 - (b.toNat : Int))]).size ≤ _; rw [bytesOf_flip, ofL_app, ofL_size, ofL_size]; simp; omega, ?_⟩) <;> conv => whnf) | ((first | refine go_dsplit2 rfl (fun h => ?_) (fun h => ?_) | refine go_loadB ?_ | refine ⟨by kernel_rfl, ?_⟩ | refine go_ret ?_) <;> conv => whnf) | ((first | refine go_skip ?_) <;> conv => whnf) | refine go_true rfl ?_ | refine go_false rfl ?_ | refine go_cond rfl (fun h => ?_) (fun h => ?_) | refine ⟨rfl, ?_⟩ | ((first | refine ⟨trivial, ?_⟩ | refine ⟨le_of_ble rfl, ?_⟩) <;> conv => whnf) | fail
        all_goals first
          | (refine ret_imm2 rfl rfl rfl rfl rfl ?_ rfl rfl; show D.str (ofL l.d ++ (ofL q ++ bytesOf [IntKind.u8.wrap (255 - (b.toNat : Int))])) = D.str _; rw [bytesOf_flip, ofL_app, ofL_app]; done)
          | (exfalso; have h' := of_decide_eq_false h; omega)
          | (exfalso; exact h3 ⟨by assumption, by have h' := of_decide_eq_true h; omega⟩)
          | trace_state
      · rw [h0, crash_plain h0 h3]
        repeat' first | refine go_seq ?_ | refine go_region ?_ | refine go_miss rfl rfl rfl ?_ | refine go_undef rfl rfl rfl ?_ | refine go_draw drawsOk ?_ | ((first | refine go_op rfl ?_ | refine go_nil ?_ | refine go_hit rfl rfl rfl ?_ | refine go_splitT rfl rfl rfl (fun h => ?_) (fun h => ?_) | refine go_splitF rfl rfl rfl (fun h => ?_) (fun h => ?_) | refine go_dop rfl ?_ | refine go_dhit rfl rfl ?_ | refine go_dmiss rfl rfl ?_ | refine go_dundef rfl rfl ?_ | refine go_dend (by kernel_rfl) ?_ | refine go_pickT rfl ?_ | refine go_pickF rfl ?_ | refine go_pick rfl (fun h => ?_) (fun h => ?_) | refine go_call [] (hv) rfl rfl rfl rfl ?_ | refine go_call [] (hi) rfl rfl rfl rfl ?_ | refine go_sliceR 0 n (l.p.take n) rfl rfl rfl rfl (by omega) (by omega) (by simp) ?_ | refine ⟨by rw [ofL_size, ofL_size]; simp; omega, ?_⟩) <;> conv => whnf) | ((first | refine go_dsplit2 rfl (fun h => ?_) (fun h => ?_) | refine go_loadB ?_ | refine ⟨by kernel_rfl, ?_⟩ | refine go_ret ?_) <;> conv => whnf) | ((first | refine go_skip ?_) <;> conv => whnf) | refine go_true rfl ?_ | refine go_false rfl ?_ | refine go_cond rfl (fun h => ?_) (fun h => ?_) | refine ⟨rfl, ?_⟩ | ((first | refine ⟨trivial, ?_⟩ | refine ⟨le_of_ble rfl, ?_⟩) <;> conv => whnf) | fail
        all_goals first
          | (refine ret_imm2 rfl rfl rfl rfl rfl ?_ rfl rfl; show D.str _ = D.str _; rw [← ofL_app]; done)
          | (exfalso; have h' := of_decide_eq_false h; omega)
          | (exfalso; exact h3 ⟨by assumption, by have h' := of_decide_eq_true h; omega⟩)
          | trace_state
attribute [local irreducible] opConvB
theorem c5 (l : LogV) (hf : l.fit) (k : Int) (torn : Bool) : CallOk Tryd.prog 5 [.imm (.agg l.enc), .imm (.int .i64 k), .imm (.bool torn)] { res := [.imm (.str (ofL (crashR l k torn))), .imm (.bool (crashOk l k))] } := by
  refine callOk_of tyOk Tryd.func5 rfl rfl (le_of_ble rfl) (le_of_ble rfl) (mutOk_imm rfl _) ?_
  have hv := c8 l hf
  have hi := c9 k 0 ((ofL l.p).size : Int)
  obtain ⟨hf1, hf2⟩ := hf
  cases h1 : validB l with
  | false =>
    rw [h1] at hv
    have h0 : crashOk l k = false := by unfold crashOk; rw [h1]; rfl
    rw [h0, crash_no h0]
    repeat' first | refine go_seq ?_ | refine go_region ?_ | refine go_miss rfl rfl rfl ?_ | refine go_undef rfl rfl rfl ?_ | ((first | refine go_op rfl ?_ | refine go_nil ?_ | refine go_hit rfl rfl rfl ?_ | refine go_splitT rfl rfl rfl (fun h => ?_) (fun h => ?_) | refine go_splitF rfl rfl rfl (fun h => ?_) (fun h => ?_) | refine go_storeBox rfl rfl rfl rfl rfl rfl ?_ | refine go_pickT rfl ?_ | refine go_pickF rfl ?_ | refine go_pick rfl (fun h => ?_) (fun h => ?_) | refine go_call [] (hv) rfl rfl rfl rfl ?_) <;> conv => whnf) | ((first | refine go_loadB ?_ | refine ⟨by kernel_rfl, ?_⟩ | refine go_ret ?_) <;> conv => whnf) | ((first | refine go_skip ?_) <;> conv => whnf) | refine go_true rfl ?_ | refine go_false rfl ?_ | refine go_cond rfl (fun h => ?_) (fun h => ?_) | refine ⟨rfl, ?_⟩ | ((first | refine ⟨trivial, ?_⟩ | refine ⟨le_of_ble rfl, ?_⟩) <;> conv => whnf) | fail
    all_goals exact ret_imm2 rfl rfl rfl rfl rfl rfl rfl rfl
  | true =>
    rw [h1] at hv
    cases h2 : inR k 0 ((ofL l.p).size : Int) with
    | false =>
      rw [h2] at hi
      have h0 : crashOk l k = false := by unfold crashOk; rw [h1, h2]; rfl
      rw [h0, crash_no h0]
      repeat' first | refine go_seq ?_ | refine go_region ?_ | refine go_miss rfl rfl rfl ?_ | refine go_undef rfl rfl rfl ?_ | ((first | refine go_op rfl ?_ | refine go_nil ?_ | refine go_hit rfl rfl rfl ?_ | refine go_splitT rfl rfl rfl (fun h => ?_) (fun h => ?_) | refine go_splitF rfl rfl rfl (fun h => ?_) (fun h => ?_) | refine go_storeBox rfl rfl rfl rfl rfl rfl ?_ | refine go_pickT rfl ?_ | refine go_pickF rfl ?_ | refine go_pick rfl (fun h => ?_) (fun h => ?_) | refine go_call [] (hv) rfl rfl rfl rfl ?_ | refine go_call [] (hi) rfl rfl rfl rfl ?_) <;> conv => whnf) | ((first | refine go_loadB ?_ | refine ⟨by kernel_rfl, ?_⟩ | refine go_ret ?_) <;> conv => whnf) | ((first | refine go_skip ?_) <;> conv => whnf) | refine go_true rfl ?_ | refine go_false rfl ?_ | refine go_cond rfl (fun h => ?_) (fun h => ?_) | refine ⟨rfl, ?_⟩ | ((first | refine ⟨trivial, ?_⟩ | refine ⟨le_of_ble rfl, ?_⟩) <;> conv => whnf) | fail
      all_goals exact ret_imm2 rfl rfl rfl rfl rfl rfl rfl rfl
    | true =>
      rw [h2] at hi
      have h0 : crashOk l k = true := by unfold crashOk; rw [h1, h2]; rfl
      rw [ofL_size] at h2
      simp only [inR, Bool.and_eq_true, decide_eq_true_eq] at h2
      obtain ⟨n, rfl⟩ : ∃ n : Nat, k = n := ⟨k.toNat, by omega⟩
      by_cases h3 : torn = true ∧ 0 < n
      · obtain ⟨h3, h4⟩ := h3
        subst h3
        obtain ⟨q, b, r, hp, hn⟩ : ∃ (q : List UInt8) (b : UInt8) (r : List UInt8), l.p = q ++ b :: r ∧ n = q.length + 1 := by
          refine ⟨l.p.take (n - 1), l.p[n - 1]'(by omega), l.p.drop n, ?_, by rw [List.length_take]; omega⟩
          have := List.take_append_drop (n - 1) l.p
          rw [List.drop_eq_getElem_cons (by omega)] at this
          rw [show n - 1 + 1 = n from by omega] at this
          exact this.symm
        subst hn
        have hpl : l.p.length = q.length + 1 + r.length := by rw [hp]; simp; omega
        have hq : (l.p.drop 0).take (q.length + 1 - 0) = q ++ [b] := by
          rw [hp, List.drop_zero, Nat.sub_zero, show q ++ b :: r = (q ++ [b]) ++ r from by simp]
          exact List.take_left' (by simp)
        have hw : IntKind.i64.wrap (((q.length + 1 : Nat) : Int) - 1) = (q.length : Int) := by rw [wrap_small (by omega) (by omega)]; omega
        have hg : decide (((q.length + 1 : Nat) : Int) > 0) = true := by simp
        rw [h0, crash_torn hp h0]
        have hb : IntKind.u8.wrap (255 - (b.toNat : Int)) = ((255 - b.toNat : Nat) : Int) := flip_val b
        have hlen : (ofL (q ++ [b])).size = q.length + 1 := by rw [ofL_size]; simp
        have hrow : (strRows (ofL (q ++ [b])))[q.length]? = some [.int .u8 (b.toNat : Int)] := by rw [strRows_ofL]; simp
        have hset : (q ++ [flip8 b]).map (fun b => [D.int .u8 (b.toNat : Int)]) = (strRows (ofL (q ++ [b]))).set q.length ([D.int .u8 (b.toNat : Int)].set 0 (.int .u8 (IntKind.u8.wrap (255 - (b.toNat : Int))))) := by
          rw [strRows_ofL, hb]
          have : (flip8 b).toNat = 255 - b.toNat := by have := b.toNat_lt; simp [flip8]; omega
          simp [this]
        repeat' first | refine go_seq ?_ | refine go_region ?_ | refine go_miss rfl rfl rfl ?_ | refine go_undef rfl rfl rfl ?_ | ((first | refine go_op rfl ?_ | refine go_nil ?_ | refine go_hit rfl rfl rfl ?_ | refine go_splitT rfl rfl rfl (fun h => ?_) (fun h => ?_) | refine go_splitF rfl rfl rfl (fun h => ?_) (fun h => ?_) | refine go_storeBox rfl rfl rfl rfl rfl rfl ?_ | refine go_pickT rfl ?_ | refine go_pickF rfl ?_ | refine go_pick rfl (fun h => ?_) (fun h => ?_) | refine go_call [] (hv) rfl rfl rfl rfl ?_ | refine go_call [] (hi) rfl rfl rfl rfl ?_ | refine go_bytes rfl rfl rfl rfl rfl rfl ?_ | refine go_sliceR 0 (q.length + 1) (q ++ [b]) rfl rfl rfl rfl (by omega) (by omega) hq ?_ | refine go_idxCel q.length rfl rfl hw rfl rfl rfl rfl (by rw [hlen]; omega) ?_ | refine go_loadCel (.int .u8 (b.toNat : Int)) rfl rfl rfl rfl hrow rfl ?_ | refine go_storeCel ((q ++ [flip8 b]).map fun b => [.int .u8 b.toNat]) rfl rfl rfl rfl rfl rfl hrow (Nat.zero_lt_succ _) hset ?_ | refine go_strCel (bl (q ++ [flip8 b])) rfl rfl rfl rfl rfl (rowsB_str _ _ (by rw [hlen]; simp)) ?_ | refine ⟨by rw [bytesOf_str, ofL_size, ofL_size]; simp; omega, ?_⟩) <;> conv => whnf) | ((first | refine go_loadB ?_ | refine ⟨by kernel_rfl, ?_⟩ | refine go_ret ?_) <;> conv => whnf) | ((first | refine go_skip ?_) <;> conv => whnf) | refine go_true rfl ?_ | refine go_false rfl ?_ | refine go_cond rfl (fun h => ?_) (fun h => ?_) | refine ⟨rfl, ?_⟩ | ((first | refine ⟨trivial, ?_⟩ | refine ⟨le_of_ble rfl, ?_⟩) <;> conv => whnf) | fail
        all_goals first
          | (refine ret_imm2 rfl rfl rfl rfl rfl ?_ rfl rfl; show D.str (ofL l.d ++ bytesOf (bl (q ++ [flip8 b]))) = D.str _; rw [bytesOf_str, ofL_app]; done)
          | (exfalso; have h' := of_decide_eq_false h; omega)
          | (exfalso; exact h3 ⟨by assumption, by have h' := of_decide_eq_true h; omega⟩)
          | trace_state
      · rw [h0, crash_plain h0 h3]
        repeat' first | refine go_seq ?_ | refine go_region ?_ | refine go_miss rfl rfl rfl ?_ | refine go_undef rfl rfl rfl ?_ | ((first | refine go_op rfl ?_ | refine go_nil ?_ | refine go_hit rfl rfl rfl ?_ | refine go_splitT rfl rfl rfl (fun h => ?_) (fun h => ?_) | refine go_splitF rfl rfl rfl (fun h => ?_) (fun h => ?_) | refine go_storeBox rfl rfl rfl rfl rfl rfl ?_ | refine go_pickT rfl ?_ | refine go_pickF rfl ?_ | refine go_pick rfl (fun h => ?_) (fun h => ?_) | refine go_call [] (hv) rfl rfl rfl rfl ?_ | refine go_call [] (hi) rfl rfl rfl rfl ?_ | refine go_bytes rfl rfl rfl rfl rfl rfl ?_ | refine go_sliceR 0 n (l.p.take n) rfl rfl rfl rfl (by omega) (by omega) (by simp) ?_ | refine go_strCel (bl (l.p.take n)) rfl rfl rfl rfl rfl (rowsB_full (l.p.take n)) ?_ | refine ⟨by rw [bytesOf_str, ofL_size, ofL_size]; simp; omega, ?_⟩) <;> conv => whnf) | ((first | refine go_loadB ?_ | refine ⟨by kernel_rfl, ?_⟩ | refine go_ret ?_) <;> conv => whnf) | ((first | refine go_skip ?_) <;> conv => whnf) | refine go_true rfl ?_ | refine go_false rfl ?_ | refine go_cond rfl (fun h => ?_) (fun h => ?_) | refine ⟨rfl, ?_⟩ | ((first | refine ⟨trivial, ?_⟩ | refine ⟨le_of_ble rfl, ?_⟩) <;> conv => whnf) | fail
        all_goals first
          | (refine ret_imm2 rfl rfl rfl rfl rfl ?_ rfl rfl; show D.str (ofL l.d ++ bytesOf (bl (l.p.take n))) = D.str _; rw [bytesOf_str, ofL_app]; done)
          | (exfalso; have h' := of_decide_eq_false h; omega)
          | (exfalso; exact h3 ⟨by assumption, by have h' := of_decide_eq_true h; omega⟩)
          | trace_state
end Go.Proofs.YtnndgejlkljlaaaDoor

