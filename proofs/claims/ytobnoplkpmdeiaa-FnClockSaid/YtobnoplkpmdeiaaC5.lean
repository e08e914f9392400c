/- The draws of FnClock, and the law. -/
import Derived.Test.YtobnoplkpmdeiaaC4
namespace Go.Proofs.Ytobnoplkpmdeiaa
open Go Go.Am
set_option maxRecDepth 100000
set_option maxHeartbeats 4000000
attribute [local irreducible] amOps amC opCall opIndexAddr opPick retQ opMake opStore amDraw opAppend opLoad opNilCmp opIndex opSlice

theorem drawIsValidTime (xs : List Int) (hx : areB xs) : ∃ t : Int, (-1 ≤ t ∧ t ≤ 1800) ∧ CallOk Try.prog 22 [.imm (.list (xs.map byteRow))] { res := [.imm (.int .i64 t)] } := by
  obtain ⟨v, k, s, hv, _, hc⟩ := time_ok xs hx 0 (by omega) 0
  refine ⟨v, hv, ?_⟩
  refine callOk_of tyOk Try.func22 rfl rfl (le_of_ble rfl) (le_of_ble rfl) (mutOk_imm rfl _) ?_
  repeat' first | refine go_seq ?_ | refine go_region ?_ | ((first | refine go_op rfl ?_ | refine go_nil ?_ | refine go_call [2] (hc) rfl rfl rfl rfl ?_) <;> conv => whnf) | ((first | refine ⟨by kernel_rfl, ?_⟩ | refine go_ret ?_) <;> conv => whnf) | ((first | refine go_skip ?_) <;> conv => whnf) | refine ⟨rfl, ?_⟩ | ((first | refine ⟨trivial, ?_⟩ | refine ⟨le_of_ble rfl, ?_⟩) <;> conv => whnf) | fail
  all_goals first
    | exact ret_imm rfl rfl rfl rfl rfl rfl
    | trace_state

theorem drawFormatTime (xs : List Int) (hx : areB xs) : ∃ t : Int, (-1 ≤ t ∧ t ≤ 1800) ∧ CallOk Try.prog 6 [.imm (.list (xs.map byteRow))] { res := [.imm (.int .i64 t)] } := by
  obtain ⟨v, hv, hc⟩ := drawIsValidTime xs hx
  refine ⟨v, hv, ?_⟩
  refine callOk_of tyOk Try.func6 rfl rfl (le_of_ble rfl) (le_of_ble rfl) (mutOk_imm rfl _) ?_
  repeat' first | refine go_seq ?_ | refine go_region ?_ | ((first | refine go_op rfl ?_ | refine go_nil ?_ | refine go_call [] (hc) rfl rfl rfl rfl ?_) <;> conv => whnf) | ((first | refine ⟨by kernel_rfl, ?_⟩ | refine go_ret ?_) <;> conv => whnf) | ((first | refine go_skip ?_) <;> conv => whnf) | refine ⟨rfl, ?_⟩ | ((first | refine ⟨trivial, ?_⟩ | refine ⟨le_of_ble rfl, ?_⟩) <;> conv => whnf) | fail
  all_goals first
    | exact ret_imm rfl rfl rfl rfl rfl rfl
    | trace_state

theorem drawClockTime (xs : List Int) (hx : areB xs) : ∃ t : Int, (-1 ≤ t ∧ t ≤ 1800) ∧ CallOk Try.prog 12 [.imm (.list (xs.map byteRow))] { res := [.imm (.int .i64 t)] } := by
  obtain ⟨b, k1, s1, hk1, hc1⟩ := one_ok xs hx 0 (by omega) 0 2
  cases b with
  | true =>
    obtain ⟨v, k2, s2, hv, _, hc2⟩ := pick_ok xs hx k1 (by omega) s1 200
    have hv2 := hv.2 (by omega)
    have e1 : IntKind.i64.wrap (1400 + IntKind.i64.wrap (v * 2)) = 1400 + v * 2 := by rw [wrap_small (n := v * 2) (by omega) (by omega), wrap_small (by omega) (by omega)]
    refine ⟨1400 + v * 2, by omega, ?_⟩
    refine callOk_of tyOk Try.func12 rfl rfl (le_of_ble rfl) (le_of_ble rfl) (mutOk_imm rfl _) ?_
    repeat' first | refine go_seq ?_ | refine go_region ?_ | ((first | refine go_op rfl ?_ | refine go_nil ?_ | refine go_call [2] (hc1) rfl rfl rfl rfl ?_ | refine go_call [2] (hc2) rfl rfl rfl rfl ?_) <;> conv => whnf) | ((first | refine ⟨by kernel_rfl, ?_⟩ | refine go_ret ?_) <;> conv => whnf) | ((first | refine go_skip ?_) <;> conv => whnf) | refine go_true rfl ?_ | refine go_false rfl ?_ | refine go_cond rfl (fun h => ?_) (fun h => ?_) | refine ⟨rfl, ?_⟩ | ((first | refine ⟨trivial, ?_⟩ | refine ⟨le_of_ble rfl, ?_⟩) <;> conv => whnf) | fail
    all_goals first
      | exact ret_imm rfl rfl rfl rfl (congrArg (D.int .i64) e1) rfl
      | trace_state
  | false =>
    obtain ⟨v, k2, s2, hv, _, hc2⟩ := time_ok xs hx k1 (by omega) s1
    refine ⟨v, hv, ?_⟩
    refine callOk_of tyOk Try.func12 rfl rfl (le_of_ble rfl) (le_of_ble rfl) (mutOk_imm rfl _) ?_
    repeat' first | refine go_seq ?_ | refine go_region ?_ | ((first | refine go_op rfl ?_ | refine go_nil ?_ | refine go_call [2] (hc1) rfl rfl rfl rfl ?_ | refine go_call [2] (hc2) rfl rfl rfl rfl ?_) <;> conv => whnf) | ((first | refine ⟨by kernel_rfl, ?_⟩ | refine go_ret ?_) <;> conv => whnf) | ((first | refine go_skip ?_) <;> conv => whnf) | refine go_true rfl ?_ | refine go_false rfl ?_ | refine go_cond rfl (fun h => ?_) (fun h => ?_) | refine ⟨rfl, ?_⟩ | ((first | refine ⟨trivial, ?_⟩ | refine ⟨le_of_ble rfl, ?_⟩) <;> conv => whnf) | fail
    all_goals first
      | exact ret_imm rfl rfl rfl rfl rfl rfl
      | trace_state

theorem drawParseTime (xs : List Int) (hx : areB xs) : ∃ l : List UInt8, l.length ≤ 1001 ∧ CallOk Try.prog 11 [.imm (.list (xs.map byteRow))] { res := [.imm (.str (ofL l))] } := by
  obtain ⟨v, k1, s1, hv, hk1, hc1⟩ := pick_ok xs hx 0 (by omega) 0 200
  have hv2 := hv.2 (by omega)
  have e1 : IntKind.i64.wrap (360 + IntKind.i64.wrap (v * 7)) = (((360 + v * 7).toNat : Nat) : Int) := by rw [wrap_small (n := v * 7) (by omega) (by omega), wrap_small (by omega) (by omega)]; omega
  have ht : CallOk Try.prog 26 [.imm (.int .i64 (IntKind.i64.wrap (360 + IntKind.i64.wrap (v * 7))))] { res := [.imm (.str (ofL (clockL (360 + v * 7).toNat)))] } := by rw [e1]; exact c26 _ (by omega)
  have hcl : (clockL (360 + v * 7).toNat).length = 5 := rfl
  obtain ⟨b, k2, s2, hk2, hc2⟩ := one_ok xs hx k1 (by omega) s1 3
  cases b with
  | false =>
    refine ⟨clockL (360 + v * 7).toNat, by rw [hcl]; omega, ?_⟩
    refine callOk_of tyOk Try.func11 rfl rfl (le_of_ble rfl) (le_of_ble rfl) (mutOk_imm rfl _) ?_
    repeat' first | refine go_seq ?_ | refine go_region ?_ | ((first | refine go_op rfl ?_ | refine go_nil ?_ | refine go_call [2] (hc1) rfl rfl rfl rfl ?_ | refine go_call [] (ht) rfl rfl rfl rfl ?_ | refine go_call [2] (hc2) rfl rfl rfl rfl ?_) <;> conv => whnf) | ((first | refine ⟨by kernel_rfl, ?_⟩ | refine go_ret ?_) <;> conv => whnf) | ((first | refine go_skip ?_) <;> conv => whnf) | refine go_true rfl ?_ | refine go_false rfl ?_ | refine go_cond rfl (fun h => ?_) (fun h => ?_) | refine ⟨rfl, ?_⟩ | ((first | refine ⟨trivial, ?_⟩ | refine ⟨le_of_ble rfl, ?_⟩) <;> conv => whnf) | fail
    all_goals first
      | exact ret_imm rfl rfl rfl rfl rfl rfl
      | trace_state
  | true =>
    obtain ⟨l, k3, s3, hl, _, hc3⟩ := spoilt_ok xs hx k2 (by omega) s2 (clockL (360 + v * 7).toNat) [48, 58, 57, 54] (by rw [hcl]; omega) (by rw [hcl]; omega) (by decide) (by decide)
    refine ⟨l, hl, ?_⟩
    refine callOk_of tyOk Try.func11 rfl rfl (le_of_ble rfl) (le_of_ble rfl) (mutOk_imm rfl _) ?_
    repeat' first | refine go_seq ?_ | refine go_region ?_ | ((first | refine go_op rfl ?_ | refine go_nil ?_ | refine go_call [2] (hc1) rfl rfl rfl rfl ?_ | refine go_call [] (ht) rfl rfl rfl rfl ?_ | refine go_call [2] (hc2) rfl rfl rfl rfl ?_ | refine go_call [2] (hc3) rfl rfl rfl rfl ?_) <;> conv => whnf) | ((first | refine ⟨by kernel_rfl, ?_⟩ | refine go_ret ?_) <;> conv => whnf) | ((first | refine go_skip ?_) <;> conv => whnf) | refine go_true rfl ?_ | refine go_false rfl ?_ | refine go_cond rfl (fun h => ?_) (fun h => ?_) | refine ⟨rfl, ?_⟩ | ((first | refine ⟨trivial, ?_⟩ | refine ⟨le_of_ble rfl, ?_⟩) <;> conv => whnf) | fail
    all_goals first
      | exact ret_imm rfl rfl rfl rfl rfl rfl
      | trace_state

theorem c5 (xs : List Int) : CallOk Try.prog 5 [.imm (.list (xs.map byteRow))] { res := [.imm (.bool (decide (65536 < ((xs.map byteRow).length : Int))))] } := by
  refine callOk_of tyOk Try.func5 rfl rfl (le_of_ble rfl) (le_of_ble rfl) (mutOk_imm rfl _) ?_
  repeat' first | refine go_seq ?_ | refine go_region ?_ | ((first | refine go_op rfl ?_ | refine go_nil ?_) <;> conv => whnf) | ((first | refine ⟨by kernel_rfl, ?_⟩ | refine go_ret ?_) <;> conv => whnf) | ((first | refine go_skip ?_) <;> conv => whnf) | refine ⟨rfl, ?_⟩ | ((first | refine ⟨trivial, ?_⟩ | refine ⟨le_of_ble rfl, ?_⟩) <;> conv => whnf) | fail
  all_goals exact ret_imm rfl rfl rfl rfl rfl rfl

theorem par_clock {t : Nat} (h : t ≤ 1799) : parR (clockL t) = t ∧ parOk (clockL t) = true := by
  have := parse_clock ⟨t, by omega⟩
  simp only at this
  unfold parR parOk
  rw [this]
  exact ⟨rfl, rfl⟩
theorem clock_par {l : List UInt8} (h : parOk l = true) : timeOk (parR l) = true ∧ clockL (parR l).toNat = l := by
  unfold parOk at h
  obtain ⟨t, ht⟩ := Option.isSome_iff_exists.1 h
  obtain ⟨h1, h2⟩ := clock_parse ht
  have hr : parR l = t := by unfold parR; rw [ht]
  rw [hr]
  refine ⟨?_, by rw [Int.toNat_natCast]; exact h1⟩
  unfold timeOk
  rw [inR_iff]
  omega

theorem c3 (xs : List Int) (hx : areB xs) : CallOk Try.prog 3 [.imm (.list (xs.map byteRow))] { res := [.imm (.bool true)] } := by
  refine callOk_of tyOk Try.func3 rfl rfl (le_of_ble rfl) (le_of_ble rfl) (mutOk_imm rfl _) ?_
  have hb := c5 xs
  cases hbig : decide (65536 < ((xs.map byteRow).length : Int)) with
  | true =>
    rw [hbig] at hb
    repeat' first | refine go_seq ?_ | refine go_region ?_ | refine go_miss rfl rfl rfl ?_ | refine go_undef rfl rfl rfl ?_ | ((first | refine go_op rfl ?_ | refine go_nil ?_ | refine go_hit rfl rfl rfl ?_ | refine go_splitT rfl rfl rfl (fun h => ?_) (fun h => ?_) | refine go_splitF rfl rfl rfl (fun h => ?_) (fun h => ?_) | refine go_pickT rfl ?_ | refine go_pickF rfl ?_ | refine go_pick rfl (fun h => ?_) (fun h => ?_) | refine go_call [] (hb) rfl rfl rfl rfl ?_) <;> conv => whnf) | ((first | refine ⟨by kernel_rfl, ?_⟩ | refine go_ret ?_) <;> conv => whnf) | ((first | refine go_skip ?_) <;> conv => whnf) | refine go_true rfl ?_ | refine go_false rfl ?_ | refine go_cond rfl (fun h => ?_) (fun h => ?_) | refine ⟨rfl, ?_⟩ | ((first | refine ⟨trivial, ?_⟩ | refine ⟨le_of_ble rfl, ?_⟩) <;> conv => whnf) | fail
    all_goals exact ret_imm rfl rfl rfl rfl rfl rfl
  | false =>
  rw [hbig] at hb
  obtain ⟨t, ht, d1⟩ := drawFormatTime xs hx
  obtain ⟨u, hu, d2⟩ := drawParseTime xs hx
  obtain ⟨d, hd, d3⟩ := drawClockTime xs hx
  have f1 := c7 t
  have v1 := c9 t
  have v2 := c10 t
  have p1 := c8 (if timeOk t then clockL t.toNat else []) (by split <;> simp [clockL, twoL])
  have p2 := c8 u (by omega)
  have f2 := c7 (parR u)
  have k1 := c13 d
  have v3 := c9 d
  have p3 := c8 (if timeOk d then clockL (d.toNat % 1440) else []) (by split <;> simp [clockL, twoL])
  have q1 : timeOk t = true → parR (clockL t.toNat) = t ∧ parOk (clockL t.toNat) = true := fun h => by
    have h1 := (inR_iff _ _ _).1 h
    have := par_clock (t := t.toNat) (by omega)
    rwa [Int.toNat_of_nonneg h1.1] at this
  have q2 : parOk u = true → timeOk (parR u) = true ∧ clockL (parR u).toNat = u := clock_par
  have q3 : timeOk d = true → parR (clockL (d.toNat % 1440)) = ((d.toNat % 1440 : Nat) : Int) ∧ parOk (clockL (d.toNat % 1440)) = true := fun _ => par_clock (by omega)
  have q4 : timeOk d = true → IntKind.i64.wrap (((d.toNat % 1440 : Nat) : Int) + IntKind.i64.wrap (1440 * (d / 1440))) = d := fun h => by
    have h1 := (inR_iff _ _ _).1 h
    rw [wrap_small (n := 1440 * (d / 1440)) (by omega) (by omega), wrap_small (by omega) (by omega)]
    omega
  have hn1 : parR [] = 0 := rfl
  have hn2 : parOk [] = false := rfl
  cases bt : timeOk t with
  | false =>
    rw [bt] at f1 v1 v2 p1
    rw [if_neg (by decide)] at f1 p1
    rw [hn1, hn2] at p1
    cases bu : parOk u with
    | false =>
      rw [bu] at p2
      cases bd : timeOk d with
      | false =>
        rw [bd] at k1 v3 p3
        rw [if_neg (by decide), if_neg (by decide)] at k1
        rw [if_neg (by decide)] at p3
        rw [hn1, hn2] at p3
        repeat' first | refine go_seq ?_ | refine go_region ?_ | refine go_miss rfl rfl rfl ?_ | refine go_undef rfl rfl rfl ?_ | ((first | refine go_op rfl ?_ | refine go_nil ?_ | refine go_hit rfl rfl rfl ?_ | refine go_splitT rfl rfl rfl (fun h => ?_) (fun h => ?_) | refine go_splitF rfl rfl rfl (fun h => ?_) (fun h => ?_) | refine go_pickT rfl ?_ | refine go_pickF rfl ?_ | refine go_pick rfl (fun h => ?_) (fun h => ?_) | refine go_call [] (hb) rfl rfl rfl rfl ?_ | refine go_call [] (d1) rfl rfl rfl rfl ?_ | refine go_call [] (f1) rfl rfl rfl rfl ?_ | refine go_call [] (p1) rfl rfl rfl rfl ?_ | refine go_call [] (v1) rfl rfl rfl rfl ?_ | refine go_call [] (v2) rfl rfl rfl rfl ?_ | refine go_call [] (d2) rfl rfl rfl rfl ?_ | refine go_call [] (p2) rfl rfl rfl rfl ?_ | refine go_call [] (f2) rfl rfl rfl rfl ?_ | refine go_call [] (d3) rfl rfl rfl rfl ?_ | refine go_call [] (k1) rfl rfl rfl rfl ?_ | refine go_call [] (p3) rfl rfl rfl rfl ?_ | refine go_call [] (v3) rfl rfl rfl rfl ?_) <;> conv => whnf) | ((first | refine ⟨by kernel_rfl, ?_⟩ | refine go_ret ?_) <;> conv => whnf) | ((first | refine go_skip ?_) <;> conv => whnf) | refine go_true rfl ?_ | refine go_false rfl ?_ | refine go_cond rfl (fun h => ?_) (fun h => ?_) | refine ⟨rfl, ?_⟩ | ((first | refine ⟨trivial, ?_⟩ | refine ⟨le_of_ble rfl, ?_⟩) <;> conv => whnf) | fail
        all_goals first
          | exact ret_imm rfl rfl rfl rfl rfl rfl
          | (exfalso; simp at h; done)
          | (exfalso; simp [str_self] at h; done)
          | (exfalso; have h' : (!(ofL u == ofL u)) = true := h; simp at h'; done)
          | trace_state
      | true =>
        rw [bd] at k1 v3 p3
        rw [if_pos rfl, if_pos rfl] at k1
        rw [if_pos rfl] at p3
        rw [(q3 bd).1, (q3 bd).2] at p3
        repeat' first | refine go_seq ?_ | refine go_region ?_ | refine go_miss rfl rfl rfl ?_ | refine go_undef rfl rfl rfl ?_ | ((first | refine go_op rfl ?_ | refine go_nil ?_ | refine go_hit rfl rfl rfl ?_ | refine go_splitT rfl rfl rfl (fun h => ?_) (fun h => ?_) | refine go_splitF rfl rfl rfl (fun h => ?_) (fun h => ?_) | refine go_pickT rfl ?_ | refine go_pickF rfl ?_ | refine go_pick rfl (fun h => ?_) (fun h => ?_) | refine go_call [] (hb) rfl rfl rfl rfl ?_ | refine go_call [] (d1) rfl rfl rfl rfl ?_ | refine go_call [] (f1) rfl rfl rfl rfl ?_ | refine go_call [] (p1) rfl rfl rfl rfl ?_ | refine go_call [] (v1) rfl rfl rfl rfl ?_ | refine go_call [] (v2) rfl rfl rfl rfl ?_ | refine go_call [] (d2) rfl rfl rfl rfl ?_ | refine go_call [] (p2) rfl rfl rfl rfl ?_ | refine go_call [] (f2) rfl rfl rfl rfl ?_ | refine go_call [] (d3) rfl rfl rfl rfl ?_ | refine go_call [] (k1) rfl rfl rfl rfl ?_ | refine go_call [] (p3) rfl rfl rfl rfl ?_ | refine go_call [] (v3) rfl rfl rfl rfl ?_) <;> conv => whnf) | ((first | refine ⟨by kernel_rfl, ?_⟩ | refine go_ret ?_) <;> conv => whnf) | ((first | refine go_skip ?_) <;> conv => whnf) | refine go_true rfl ?_ | refine go_false rfl ?_ | refine go_cond rfl (fun h => ?_) (fun h => ?_) | refine ⟨rfl, ?_⟩ | ((first | refine ⟨trivial, ?_⟩ | refine ⟨le_of_ble rfl, ?_⟩) <;> conv => whnf) | fail
        all_goals first
          | exact ret_imm rfl rfl rfl rfl rfl rfl
          | exact ret_imm rfl rfl rfl rfl (congrArg D.bool (decide_eq_true (q4 bd))) rfl
          | (exfalso; simp at h; done)
          | (exfalso; simp [str_self] at h; done)
          | (exfalso; have h' : (!(ofL u == ofL u)) = true := h; simp at h'; done)
          | trace_state
    | true =>
      rw [bu] at p2
      rw [(q2 bu).1, if_pos rfl, (q2 bu).2] at f2
      cases bd : timeOk d with
      | false =>
        rw [bd] at k1 v3 p3
        rw [if_neg (by decide), if_neg (by decide)] at k1
        rw [if_neg (by decide)] at p3
        rw [hn1, hn2] at p3
        repeat' first | refine go_seq ?_ | refine go_region ?_ | refine go_miss rfl rfl rfl ?_ | refine go_undef rfl rfl rfl ?_ | ((first | refine go_op rfl ?_ | refine go_nil ?_ | refine go_hit rfl rfl rfl ?_ | refine go_splitT rfl rfl rfl (fun h => ?_) (fun h => ?_) | refine go_splitF rfl rfl rfl (fun h => ?_) (fun h => ?_) | refine go_pickT rfl ?_ | refine go_pickF rfl ?_ | refine go_pick rfl (fun h => ?_) (fun h => ?_) | refine go_call [] (hb) rfl rfl rfl rfl ?_ | refine go_call [] (d1) rfl rfl rfl rfl ?_ | refine go_call [] (f1) rfl rfl rfl rfl ?_ | refine go_call [] (p1) rfl rfl rfl rfl ?_ | refine go_call [] (v1) rfl rfl rfl rfl ?_ | refine go_call [] (v2) rfl rfl rfl rfl ?_ | refine go_call [] (d2) rfl rfl rfl rfl ?_ | refine go_call [] (p2) rfl rfl rfl rfl ?_ | refine go_call [] (f2) rfl rfl rfl rfl ?_ | refine go_call [] (d3) rfl rfl rfl rfl ?_ | refine go_call [] (k1) rfl rfl rfl rfl ?_ | refine go_call [] (p3) rfl rfl rfl rfl ?_ | refine go_call [] (v3) rfl rfl rfl rfl ?_) <;> conv => whnf) | ((first | refine ⟨by kernel_rfl, ?_⟩ | refine go_ret ?_) <;> conv => whnf) | ((first | refine go_skip ?_) <;> conv => whnf) | refine go_true rfl ?_ | refine go_false rfl ?_ | refine go_cond rfl (fun h => ?_) (fun h => ?_) | refine ⟨rfl, ?_⟩ | ((first | refine ⟨trivial, ?_⟩ | refine ⟨le_of_ble rfl, ?_⟩) <;> conv => whnf) | fail
        all_goals first
          | exact ret_imm rfl rfl rfl rfl rfl rfl
          | (exfalso; simp at h; done)
          | (exfalso; simp [str_self] at h; done)
          | (exfalso; have h' : (!(ofL u == ofL u)) = true := h; simp at h'; done)
          | trace_state
      | true =>
        rw [bd] at k1 v3 p3
        rw [if_pos rfl, if_pos rfl] at k1
        rw [if_pos rfl] at p3
        rw [(q3 bd).1, (q3 bd).2] at p3
        repeat' first | refine go_seq ?_ | refine go_region ?_ | refine go_miss rfl rfl rfl ?_ | refine go_undef rfl rfl rfl ?_ | ((first | refine go_op rfl ?_ | refine go_nil ?_ | refine go_hit rfl rfl rfl ?_ | refine go_splitT rfl rfl rfl (fun h => ?_) (fun h => ?_) | refine go_splitF rfl rfl rfl (fun h => ?_) (fun h => ?_) | refine go_pickT rfl ?_ | refine go_pickF rfl ?_ | refine go_pick rfl (fun h => ?_) (fun h => ?_) | refine go_call [] (hb) rfl rfl rfl rfl ?_ | refine go_call [] (d1) rfl rfl rfl rfl ?_ | refine go_call [] (f1) rfl rfl rfl rfl ?_ | refine go_call [] (p1) rfl rfl rfl rfl ?_ | refine go_call [] (v1) rfl rfl rfl rfl ?_ | refine go_call [] (v2) rfl rfl rfl rfl ?_ | refine go_call [] (d2) rfl rfl rfl rfl ?_ | refine go_call [] (p2) rfl rfl rfl rfl ?_ | refine go_call [] (f2) rfl rfl rfl rfl ?_ | refine go_call [] (d3) rfl rfl rfl rfl ?_ | refine go_call [] (k1) rfl rfl rfl rfl ?_ | refine go_call [] (p3) rfl rfl rfl rfl ?_ | refine go_call [] (v3) rfl rfl rfl rfl ?_) <;> conv => whnf) | ((first | refine ⟨by kernel_rfl, ?_⟩ | refine go_ret ?_) <;> conv => whnf) | ((first | refine go_skip ?_) <;> conv => whnf) | refine go_true rfl ?_ | refine go_false rfl ?_ | refine go_cond rfl (fun h => ?_) (fun h => ?_) | refine ⟨rfl, ?_⟩ | ((first | refine ⟨trivial, ?_⟩ | refine ⟨le_of_ble rfl, ?_⟩) <;> conv => whnf) | fail
        all_goals first
          | exact ret_imm rfl rfl rfl rfl rfl rfl
          | exact ret_imm rfl rfl rfl rfl (congrArg D.bool (decide_eq_true (q4 bd))) rfl
          | (exfalso; simp at h; done)
          | (exfalso; simp [str_self] at h; done)
          | (exfalso; have h' : (!(ofL u == ofL u)) = true := h; simp at h'; done)
          | trace_state
  | true =>
    rw [bt] at f1 v1 v2 p1
    rw [if_pos rfl] at f1 p1
    rw [(q1 bt).1, (q1 bt).2] at p1
    cases bu : parOk u with
    | false =>
      rw [bu] at p2
      cases bd : timeOk d with
      | false =>
        rw [bd] at k1 v3 p3
        rw [if_neg (by decide), if_neg (by decide)] at k1
        rw [if_neg (by decide)] at p3
        rw [hn1, hn2] at p3
        repeat' first | refine go_seq ?_ | refine go_region ?_ | refine go_miss rfl rfl rfl ?_ | refine go_undef rfl rfl rfl ?_ | ((first | refine go_op rfl ?_ | refine go_nil ?_ | refine go_hit rfl rfl rfl ?_ | refine go_splitT rfl rfl rfl (fun h => ?_) (fun h => ?_) | refine go_splitF rfl rfl rfl (fun h => ?_) (fun h => ?_) | refine go_pickT rfl ?_ | refine go_pickF rfl ?_ | refine go_pick rfl (fun h => ?_) (fun h => ?_) | refine go_call [] (hb) rfl rfl rfl rfl ?_ | refine go_call [] (d1) rfl rfl rfl rfl ?_ | refine go_call [] (f1) rfl rfl rfl rfl ?_ | refine go_call [] (p1) rfl rfl rfl rfl ?_ | refine go_call [] (v1) rfl rfl rfl rfl ?_ | refine go_call [] (v2) rfl rfl rfl rfl ?_ | refine go_call [] (d2) rfl rfl rfl rfl ?_ | refine go_call [] (p2) rfl rfl rfl rfl ?_ | refine go_call [] (f2) rfl rfl rfl rfl ?_ | refine go_call [] (d3) rfl rfl rfl rfl ?_ | refine go_call [] (k1) rfl rfl rfl rfl ?_ | refine go_call [] (p3) rfl rfl rfl rfl ?_ | refine go_call [] (v3) rfl rfl rfl rfl ?_) <;> conv => whnf) | ((first | refine ⟨by kernel_rfl, ?_⟩ | refine go_ret ?_) <;> conv => whnf) | ((first | refine go_skip ?_) <;> conv => whnf) | refine go_true rfl ?_ | refine go_false rfl ?_ | refine go_cond rfl (fun h => ?_) (fun h => ?_) | refine ⟨rfl, ?_⟩ | ((first | refine ⟨trivial, ?_⟩ | refine ⟨le_of_ble rfl, ?_⟩) <;> conv => whnf) | fail
        all_goals first
          | exact ret_imm rfl rfl rfl rfl rfl rfl
          | (exfalso; simp at h; done)
          | (exfalso; simp [str_self] at h; done)
          | (exfalso; have h' : (!(ofL u == ofL u)) = true := h; simp at h'; done)
          | trace_state
      | true =>
        rw [bd] at k1 v3 p3
        rw [if_pos rfl, if_pos rfl] at k1
        rw [if_pos rfl] at p3
        rw [(q3 bd).1, (q3 bd).2] at p3
        repeat' first | refine go_seq ?_ | refine go_region ?_ | refine go_miss rfl rfl rfl ?_ | refine go_undef rfl rfl rfl ?_ | ((first | refine go_op rfl ?_ | refine go_nil ?_ | refine go_hit rfl rfl rfl ?_ | refine go_splitT rfl rfl rfl (fun h => ?_) (fun h => ?_) | refine go_splitF rfl rfl rfl (fun h => ?_) (fun h => ?_) | refine go_pickT rfl ?_ | refine go_pickF rfl ?_ | refine go_pick rfl (fun h => ?_) (fun h => ?_) | refine go_call [] (hb) rfl rfl rfl rfl ?_ | refine go_call [] (d1) rfl rfl rfl rfl ?_ | refine go_call [] (f1) rfl rfl rfl rfl ?_ | refine go_call [] (p1) rfl rfl rfl rfl ?_ | refine go_call [] (v1) rfl rfl rfl rfl ?_ | refine go_call [] (v2) rfl rfl rfl rfl ?_ | refine go_call [] (d2) rfl rfl rfl rfl ?_ | refine go_call [] (p2) rfl rfl rfl rfl ?_ | refine go_call [] (f2) rfl rfl rfl rfl ?_ | refine go_call [] (d3) rfl rfl rfl rfl ?_ | refine go_call [] (k1) rfl rfl rfl rfl ?_ | refine go_call [] (p3) rfl rfl rfl rfl ?_ | refine go_call [] (v3) rfl rfl rfl rfl ?_) <;> conv => whnf) | ((first | refine ⟨by kernel_rfl, ?_⟩ | refine go_ret ?_) <;> conv => whnf) | ((first | refine go_skip ?_) <;> conv => whnf) | refine go_true rfl ?_ | refine go_false rfl ?_ | refine go_cond rfl (fun h => ?_) (fun h => ?_) | refine ⟨rfl, ?_⟩ | ((first | refine ⟨trivial, ?_⟩ | refine ⟨le_of_ble rfl, ?_⟩) <;> conv => whnf) | fail
        all_goals first
          | exact ret_imm rfl rfl rfl rfl rfl rfl
          | exact ret_imm rfl rfl rfl rfl (congrArg D.bool (decide_eq_true (q4 bd))) rfl
          | (exfalso; simp at h; done)
          | (exfalso; simp [str_self] at h; done)
          | (exfalso; have h' : (!(ofL u == ofL u)) = true := h; simp at h'; done)
          | trace_state
    | true =>
      rw [bu] at p2
      rw [(q2 bu).1, if_pos rfl, (q2 bu).2] at f2
      cases bd : timeOk d with
      | false =>
        rw [bd] at k1 v3 p3
        rw [if_neg (by decide), if_neg (by decide)] at k1
        rw [if_neg (by decide)] at p3
        rw [hn1, hn2] at p3
        repeat' first | refine go_seq ?_ | refine go_region ?_ | refine go_miss rfl rfl rfl ?_ | refine go_undef rfl rfl rfl ?_ | ((first | refine go_op rfl ?_ | refine go_nil ?_ | refine go_hit rfl rfl rfl ?_ | refine go_splitT rfl rfl rfl (fun h => ?_) (fun h => ?_) | refine go_splitF rfl rfl rfl (fun h => ?_) (fun h => ?_) | refine go_pickT rfl ?_ | refine go_pickF rfl ?_ | refine go_pick rfl (fun h => ?_) (fun h => ?_) | refine go_call [] (hb) rfl rfl rfl rfl ?_ | refine go_call [] (d1) rfl rfl rfl rfl ?_ | refine go_call [] (f1) rfl rfl rfl rfl ?_ | refine go_call [] (p1) rfl rfl rfl rfl ?_ | refine go_call [] (v1) rfl rfl rfl rfl ?_ | refine go_call [] (v2) rfl rfl rfl rfl ?_ | refine go_call [] (d2) rfl rfl rfl rfl ?_ | refine go_call [] (p2) rfl rfl rfl rfl ?_ | refine go_call [] (f2) rfl rfl rfl rfl ?_ | refine go_call [] (d3) rfl rfl rfl rfl ?_ | refine go_call [] (k1) rfl rfl rfl rfl ?_ | refine go_call [] (p3) rfl rfl rfl rfl ?_ | refine go_call [] (v3) rfl rfl rfl rfl ?_) <;> conv => whnf) | ((first | refine ⟨by kernel_rfl, ?_⟩ | refine go_ret ?_) <;> conv => whnf) | ((first | refine go_skip ?_) <;> conv => whnf) | refine go_true rfl ?_ | refine go_false rfl ?_ | refine go_cond rfl (fun h => ?_) (fun h => ?_) | refine ⟨rfl, ?_⟩ | ((first | refine ⟨trivial, ?_⟩ | refine ⟨le_of_ble rfl, ?_⟩) <;> conv => whnf) | fail
        all_goals first
          | exact ret_imm rfl rfl rfl rfl rfl rfl
          | (exfalso; simp at h; done)
          | (exfalso; simp [str_self] at h; done)
          | (exfalso; have h' : (!(ofL u == ofL u)) = true := h; simp at h'; done)
          | trace_state
      | true =>
        rw [bd] at k1 v3 p3
        rw [if_pos rfl, if_pos rfl] at k1
        rw [if_pos rfl] at p3
        rw [(q3 bd).1, (q3 bd).2] at p3
        repeat' first | refine go_seq ?_ | refine go_region ?_ | refine go_miss rfl rfl rfl ?_ | refine go_undef rfl rfl rfl ?_ | ((first | refine go_op rfl ?_ | refine go_nil ?_ | refine go_hit rfl rfl rfl ?_ | refine go_splitT rfl rfl rfl (fun h => ?_) (fun h => ?_) | refine go_splitF rfl rfl rfl (fun h => ?_) (fun h => ?_) | refine go_pickT rfl ?_ | refine go_pickF rfl ?_ | refine go_pick rfl (fun h => ?_) (fun h => ?_) | refine go_call [] (hb) rfl rfl rfl rfl ?_ | refine go_call [] (d1) rfl rfl rfl rfl ?_ | refine go_call [] (f1) rfl rfl rfl rfl ?_ | refine go_call [] (p1) rfl rfl rfl rfl ?_ | refine go_call [] (v1) rfl rfl rfl rfl ?_ | refine go_call [] (v2) rfl rfl rfl rfl ?_ | refine go_call [] (d2) rfl rfl rfl rfl ?_ | refine go_call [] (p2) rfl rfl rfl rfl ?_ | refine go_call [] (f2) rfl rfl rfl rfl ?_ | refine go_call [] (d3) rfl rfl rfl rfl ?_ | refine go_call [] (k1) rfl rfl rfl rfl ?_ | refine go_call [] (p3) rfl rfl rfl rfl ?_ | refine go_call [] (v3) rfl rfl rfl rfl ?_) <;> conv => whnf) | ((first | refine ⟨by kernel_rfl, ?_⟩ | refine go_ret ?_) <;> conv => whnf) | ((first | refine go_skip ?_) <;> conv => whnf) | refine go_true rfl ?_ | refine go_false rfl ?_ | refine go_cond rfl (fun h => ?_) (fun h => ?_) | refine ⟨rfl, ?_⟩ | ((first | refine ⟨trivial, ?_⟩ | refine ⟨le_of_ble rfl, ?_⟩) <;> conv => whnf) | fail
        all_goals first
          | exact ret_imm rfl rfl rfl rfl rfl rfl
          | exact ret_imm rfl rfl rfl rfl (congrArg D.bool (decide_eq_true (q4 bd))) rfl
          | (exfalso; simp at h; done)
          | (exfalso; simp [str_self] at h; done)
          | (exfalso; have h' : (!(ofL u == ofL u)) = true := h; simp at h'; done)
          | trace_state
end Go.Proofs.Ytobnoplkpmdeiaa

