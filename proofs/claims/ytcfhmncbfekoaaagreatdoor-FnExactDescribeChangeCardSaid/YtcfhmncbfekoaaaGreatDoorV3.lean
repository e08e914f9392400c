/- Trips put in, taken out, looked for: the program. -/
import Derived.Test.YtcfhmncbfekoaaaGreatDoorV1
import Derived.Test.YtcfhmncbfekoaaaGreatDoorV2
namespace Go.Proofs.YtcfhmncbfekoaaaGreatDoor
open Go Go.Am
set_option maxRecDepth 100000
set_option maxHeartbeats 4000000
attribute [local irreducible] amOps amC opCall opIndexAddr opPick retQ opMake opStore amDraw opAppend opLoad opNilCmp opIndex opSlice

theorem argsIn_i {m : Nat → Option O} {k : Nat} {md : List Nat} {d : D} {r : List AV} {is : List In} {vs fs : List Nat} {gs : List (Option Nat)} (hr : argsIn m md r = some (is, vs, fs, gs)) : argsIn m (k :: md) (.imm d :: r) = some (.imm d :: is, vs, fs, none :: gs) := by
  have h1 : argIn m k (.imm d) = some (.imm d, [], [], none) := by simp [argIn]
  simp only [argsIn, List.headD_cons, List.tail_cons, h1, hr, List.nil_append]

theorem ins_next {xs : List Trip} {x y : Trip} {i : Nat} (hy : xs[i]? = some y) (ha : ∀ z ∈ xs.take i, ltB x z = true) (hl : ltB x y = true) : ∀ z ∈ xs.take (i + 1), ltB x z = true := by
  intro z hz
  rw [List.take_add_one, hy] at hz
  rcases List.mem_append.1 hz with hz | hz
  · exact ha z hz
  · simp at hz
    rw [hz]; exact hl
theorem ins_here {xs : List Trip} {x : Trip} {i : Nat} (hi : i ≤ xs.length) (ha : ∀ z ∈ xs.take i, ltB x z = true) (hn : ∀ y, xs[i]? = some y → ltB x y = false) : insAt xs x = i := by
  unfold insAt
  induction xs generalizing i with
  | nil => simp at hi; subst hi; rfl
  | cons z zs ih =>
    cases i with
    | zero =>
      have := hn z rfl
      rw [List.takeWhile_cons, this]
      rfl
    | succ i =>
      have hz := ha z (by simp)
      rw [List.takeWhile_cons, hz]
      simp only [if_true, List.length_cons]
      rw [ih (i := i) (by simpa using hi) (fun w hw => ha w (by simp [hw])) (fun w hw => hn w (by simpa using hw))]

theorem c99 (t : Timetable) (hf : t.fit) (x : Trip) : CallOk Tryz.prog 99 [.imm (.agg t.enc), .imm (.agg x.enc)]
    { res := [.imm (.list (t.net.stops.map strRow)), .imm (.list (t.net.lines.map Line.enc)), .arr 43 3 ((insT t.trips x).map Trip.enc)], sep := false, agg := true } := by
  refine callOk_of tyOk Tryz.func99 rfl rfl (le_of_ble rfl) (le_of_ble rfl) (mutOk_imm rfl _) ?_
  have h1 := c97 t hf
  have hl := hf.2.1
  repeat' first | refine go_seq ?_ | refine go_region ?_ | refine go_miss rfl rfl rfl ?_ | refine go_undef rfl rfl rfl ?_ | refine go_draw drawsOk ?_ | ((first | refine go_op rfl ?_ | refine go_nil ?_ | refine go_hit rfl rfl rfl ?_ | refine go_splitT rfl rfl rfl (fun h => ?_) (fun h => ?_) | refine go_splitF rfl rfl rfl (fun h => ?_) (fun h => ?_) | refine go_storeBox rfl rfl rfl rfl rfl rfl ?_ | refine go_dop rfl ?_ | refine go_dhit rfl rfl ?_ | refine go_dmiss rfl rfl ?_ | refine go_dundef rfl rfl ?_ | refine go_dend (by kernel_rfl) ?_ | refine go_pickT rfl ?_ | refine go_pickF rfl ?_ | refine go_pick rfl (fun h => ?_) (fun h => ?_)) <;> conv => whnf) | ((first | refine go_dsplit2 rfl (fun h => ?_) (fun h => ?_) | refine go_loadB ?_ | refine ⟨by kernel_rfl, ?_⟩ | refine go_ret ?_) <;> conv => whnf) | refine go_block ?_ | ((first | refine go_skip ?_ | refine go_exit ?_) <;> conv => whnf) | refine go_true rfl ?_ | refine go_false rfl ?_ | refine go_cond rfl (fun h => ?_) (fun h => ?_) | refine ⟨rfl, ?_⟩ | ((first | refine ⟨trivial, ?_⟩ | refine ⟨le_of_ble rfl, ?_⟩) <;> conv => whnf) | fail
  refine go_loop (α := Nat) (fun i => i ≤ t.trips.length ∧ ∀ z ∈ t.trips.take i, ltB x z = true) (fun i => t.trips.length - i)
    (fun i => st Tryz.f99.ntmps [(2, .box 1000 0), (3, .box 1001 0), (4, .box 1002 0), (5, .imm (.int .i64 (i : Nat)))]
      [(1000, .box 41 (t.enc.map .imm)), (1001, .box 43 (x.enc.map .imm)), (1002, .box 41 ([.list [], .list [], .list []].map .imm))] []) 0 ⟨Nat.zero_le _, fun z hz => by simp at hz⟩ ?_ ?_
  · exact ref_st (fun i => if i = 1000 then nid 1 2 else if i = 1001 then nid 1 3 else nid 1 4) rfl ⟨⟨rfl, rfl⟩, ⟨rfl, rfl⟩, ⟨rfl, rfl⟩, rfl, trivial⟩ ⟨⟨rfl, wavs_imm _⟩, ⟨rfl, wavs_imm _⟩, ⟨rfl, wavs_imm _⟩, trivial⟩ (by simp [nid]) rfl (by simp)
  rintro i ⟨hi, ha⟩
  have hfin : (∀ y, t.trips[i]? = some y → ltB x y = false) → insAt t.trips x = i := fun hn => ins_here hi ha hn
  cases hx : t.trips[i]? with
  | none =>
    have hge := le_of_at hx
    have hie : i = t.trips.length := by omega
    have hia := hfin (fun y hy => by rw [hx] at hy; cases hy)
    have hI := c145e t.trips x hl
    have hres : insT t.trips x = t.trips ++ [x] := by unfold insT; rw [hia, hie, List.take_length, List.drop_length]
    rw [hres]
    subst hie
    repeat' first | refine go_seq ?_ | refine go_region ?_ | refine go_miss rfl rfl rfl ?_ | refine go_undef rfl rfl rfl ?_ | refine go_draw drawsOk ?_ | ((first | refine go_op rfl ?_ | refine go_nil ?_ | refine go_hit rfl rfl rfl ?_ | refine go_splitT rfl rfl rfl (fun h => ?_) (fun h => ?_) | refine go_splitF rfl rfl rfl (fun h => ?_) (fun h => ?_) | refine go_storeBox rfl rfl rfl rfl rfl rfl ?_ | refine go_dop rfl ?_ | refine go_dhit rfl rfl ?_ | refine go_dmiss rfl rfl ?_ | refine go_dundef rfl rfl ?_ | refine go_dend (by kernel_rfl) ?_ | refine go_pickT rfl ?_ | refine go_pickF rfl ?_ | refine go_pick rfl (fun h => ?_) (fun h => ?_) | refine go_call [] (h1) rfl rfl rfl rfl ?_ | refine go_call [2, 0, 2] hI (argsIn_lent rfl rfl (argsIn_i (argsIn_lent rfl rfl rfl))) rfl rfl rfl ?_) <;> conv => whnf) | ((first | refine go_dsplit2 rfl (fun h => ?_) (fun h => ?_) | refine go_loadB ?_ | refine ⟨by kernel_rfl, ?_⟩ | refine go_ret ?_) <;> conv => whnf) | refine go_block ?_ | ((first | refine go_skip ?_ | refine go_exit ?_) <;> conv => whnf) | refine go_true rfl ?_ | refine go_false rfl ?_ | refine go_cond rfl (fun h => ?_) (fun h => ?_) | refine ⟨rfl, ?_⟩ | ((first | refine ⟨trivial, ?_⟩ | refine ⟨le_of_ble rfl, ?_⟩) <;> conv => whnf) | fail
    all_goals first
      | (refine ret_agg rfl rfl rfl ⟨⟨rfl, fun h => by cases h⟩, ⟨rfl, fun h => by cases h⟩, ret1_arr rfl ?_ (trip_gr _) (by show _ ∉ ([] : List Nat); simp), trivial⟩ ?_ List.nodup_nil trivial
         · rw [List.drop_zero, List.take_length]
         · exact List.nodup_cons.2 ⟨by simp [ownIds], List.nodup_nil⟩
         done)
      | (exfalso; simp at h; done)
      | (exfalso; simp at h; omega)
      | trace_state
  | some y =>
    have hlt := lt_of_at hx
    have hr := row_at Trip.enc hx
    have hI := c145 t.trips x i hlt hl
    cases hb : ltB x y with
    | true =>
      have hb' : y.id < x.id := by simpa [ltB] using hb
      repeat' first | refine go_seq ?_ | refine go_region ?_ | refine go_miss rfl rfl rfl ?_ | refine go_undef rfl rfl rfl ?_ | refine go_draw drawsOk ?_ | ((first | refine go_op rfl ?_ | refine go_nil ?_ | refine go_hit rfl rfl rfl ?_ | refine go_splitT rfl rfl rfl (fun h => ?_) (fun h => ?_) | refine go_splitF rfl rfl rfl (fun h => ?_) (fun h => ?_) | refine go_storeBox rfl rfl rfl rfl rfl rfl ?_ | refine go_dop rfl ?_ | refine go_dhit rfl rfl ?_ | refine go_dmiss rfl rfl ?_ | refine go_dundef rfl rfl ?_ | refine go_dend (by kernel_rfl) ?_ | refine go_pickT rfl ?_ | refine go_pickF rfl ?_ | refine go_pick rfl (fun h => ?_) (fun h => ?_) | refine go_idx rfl rfl rfl rfl (by omega) hr rfl ?_) <;> conv => whnf) | ((first | refine go_dsplit2 rfl (fun h => ?_) (fun h => ?_) | refine go_loadB ?_ | refine ⟨by kernel_rfl, ?_⟩ | refine go_ret ?_) <;> conv => whnf) | refine go_block ?_ | ((first | refine go_skip ?_ | refine go_exit ?_) <;> conv => whnf) | refine go_true rfl ?_ | refine go_false rfl ?_ | refine go_cond rfl (fun h => ?_) (fun h => ?_) | refine ⟨rfl, ?_⟩ | ((first | refine ⟨trivial, ?_⟩ | refine ⟨le_of_ble rfl, ?_⟩) <;> conv => whnf) | fail
      all_goals first
        | (exact go_next (i + 1) ⟨by omega, ins_next hx ha hb⟩ (by omega) (ref_st id rfl ⟨⟨rfl, rfl⟩, ⟨rfl, rfl⟩, ⟨rfl, rfl⟩, next_i (by omega), trivial⟩ ⟨⟨rfl, wavs_imm _⟩, ⟨rfl, wavs_imm _⟩, ⟨rfl, wavs_imm _⟩, trivial⟩ (by simp) rfl (by simp)))
        | (exfalso; simp at h; omega)
        | (exfalso; have h' := of_decide_eq_false h; omega)
        | (exfalso; have h' := of_decide_eq_true h; omega)
        | (exfalso; rename_i hq; have h' := of_decide_eq_true hq; omega)
        | (exfalso; rename_i hq; have h' := of_decide_eq_false hq; omega)
        | (exfalso; rename_i hq _; have h' := of_decide_eq_true hq; omega)
        | (exfalso; rename_i hq _; have h' := of_decide_eq_false hq; omega)
        | trace_state
    | false =>
      have hb' : ¬ y.id < x.id := by simpa [ltB] using hb
      have hia := hfin (fun z hz => by rw [hx] at hz; injection hz with hz; rw [← hz]; exact hb)
      have hres : insT t.trips x = t.trips.take i ++ x :: t.trips.drop i := by unfold insT; rw [hia]
      rw [hres]
      repeat' first | refine go_seq ?_ | refine go_region ?_ | refine go_miss rfl rfl rfl ?_ | refine go_undef rfl rfl rfl ?_ | refine go_draw drawsOk ?_ | ((first | refine go_op rfl ?_ | refine go_nil ?_ | refine go_hit rfl rfl rfl ?_ | refine go_splitT rfl rfl rfl (fun h => ?_) (fun h => ?_) | refine go_splitF rfl rfl rfl (fun h => ?_) (fun h => ?_) | refine go_storeBox rfl rfl rfl rfl rfl rfl ?_ | refine go_dop rfl ?_ | refine go_dhit rfl rfl ?_ | refine go_dmiss rfl rfl ?_ | refine go_dundef rfl rfl ?_ | refine go_dend (by kernel_rfl) ?_ | refine go_pickT rfl ?_ | refine go_pickF rfl ?_ | refine go_pick rfl (fun h => ?_) (fun h => ?_) | refine go_call [] (h1) rfl rfl rfl rfl ?_ | refine go_call [2, 0, 2] hI (argsIn_lent rfl rfl (argsIn_i (argsIn_lent rfl rfl rfl))) rfl rfl rfl ?_ | refine go_idx rfl rfl rfl rfl (by omega) hr rfl ?_) <;> conv => whnf) | ((first | refine go_dsplit2 rfl (fun h => ?_) (fun h => ?_) | refine go_loadB ?_ | refine ⟨by kernel_rfl, ?_⟩ | refine go_ret ?_) <;> conv => whnf) | refine go_block ?_ | ((first | refine go_skip ?_ | refine go_exit ?_) <;> conv => whnf) | refine go_true rfl ?_ | refine go_false rfl ?_ | refine go_cond rfl (fun h => ?_) (fun h => ?_) | refine ⟨rfl, ?_⟩ | ((first | refine ⟨trivial, ?_⟩ | refine ⟨le_of_ble rfl, ?_⟩) <;> conv => whnf) | fail
      all_goals first
        | (refine ret_agg rfl rfl rfl ⟨⟨rfl, fun h => by cases h⟩, ⟨rfl, fun h => by cases h⟩, ret1_arr rfl ?_ (trip_gr _) (by show _ ∉ ([] : List Nat); simp), trivial⟩ ?_ List.nodup_nil trivial
           · rw [List.drop_zero, List.take_length]
           · exact List.nodup_cons.2 ⟨by simp [ownIds], List.nodup_nil⟩
           done)
        | (exfalso; simp at h; omega)
        | (exfalso; have h' := of_decide_eq_false h; omega)
        | (exfalso; have h' := of_decide_eq_true h; omega)
        | (exfalso; rename_i hq; have h' := of_decide_eq_true hq; omega)
        | (exfalso; rename_i hq; have h' := of_decide_eq_false hq; omega)
        | (exfalso; rename_i hq _; have h' := of_decide_eq_true hq; omega)
        | (exfalso; rename_i hq _; have h' := of_decide_eq_false hq; omega)
        | trace_state

theorem c100 (t : Timetable) (hf : t.fit) (i : Nat) (hi : i < t.trips.length) : CallOk Tryz.prog 100 [.imm (.agg t.enc), .imm (.int .i64 (i : Int))]
    { res := [.imm (.list (t.net.stops.map strRow)), .imm (.list (t.net.lines.map Line.enc)), .arr 43 3 ((delAt t.trips i).map Trip.enc)], sep := false, agg := true } := by
  refine callOk_of tyOk Tryz.func100 rfl rfl (le_of_ble rfl) (le_of_ble rfl) (mutOk_imm rfl _) ?_
  have h1 := c97 t hf
  have hl := hf.2.1
  have e1 : IntKind.i64.wrap ((i : Int) + 1) = ((i + 1 : Nat) : Int) := by rw [wrap_small (by omega) (by omega)]; omega
  have hD : CallOk Tryz.prog 146 [.arr 43 3 (t.trips.map Trip.enc), .imm (.int .i64 (i : Int)), .imm (.int .i64 (IntKind.i64.wrap ((i : Int) + 1)))] { res := [.arr 43 3 ((delAt t.trips i).map Trip.enc)] } := by
    rw [e1]; exact c146 t.trips i hi
  repeat' first | refine go_seq ?_ | refine go_region ?_ | ((first | refine go_op rfl ?_ | refine go_nil ?_ | refine go_storeBox rfl rfl rfl rfl rfl rfl ?_ | refine go_call [] (h1) rfl rfl rfl rfl ?_ | refine go_call [2, 0, 0] hD (argsIn_lent rfl rfl rfl) rfl rfl rfl ?_) <;> conv => whnf) | ((first | refine go_loadB ?_ | refine ⟨by kernel_rfl, ?_⟩ | refine go_ret ?_) <;> conv => whnf) | ((first | refine go_skip ?_) <;> conv => whnf) | refine ⟨rfl, ?_⟩ | ((first | refine ⟨trivial, ?_⟩ | refine ⟨le_of_ble rfl, ?_⟩) <;> conv => whnf) | fail
  all_goals first
    | (refine ret_agg rfl rfl rfl ⟨⟨rfl, fun h => by cases h⟩, ⟨rfl, fun h => by cases h⟩, ret1_arr rfl ?_ (trip_gr _) (by show _ ∉ ([] : List Nat); simp), trivial⟩ ?_ List.nodup_nil trivial
       · rw [List.drop_zero, List.take_length]
       · exact List.nodup_cons.2 ⟨by simp [ownIds], List.nodup_nil⟩
       done)
    | trace_state

theorem c76 (k : Int) (x : Trip) : CallOk Tryz.prog 76 [.imm (.agg x.enc), .imm (.ptr [.int .i64 k])] { res := [.imm (.bool (decide (x.id = k)))] } := by
  refine callOk_of tyOk Tryz.func76 rfl rfl (le_of_ble rfl) (le_of_ble rfl) (mutOk_imm rfl _) ?_
  repeat' first | refine go_seq ?_ | refine go_region ?_ | ((first | refine go_op rfl ?_ | refine go_nil ?_) <;> conv => whnf) | ((first | refine go_loadB ?_ | refine ⟨by kernel_rfl, ?_⟩ | refine go_ret ?_) <;> conv => whnf) | ((first | refine go_skip ?_) <;> conv => whnf) | refine ⟨rfl, ?_⟩ | ((first | refine ⟨trivial, ?_⟩ | refine ⟨le_of_ble rfl, ?_⟩) <;> conv => whnf) | fail
  all_goals exact ret_imm rfl rfl rfl rfl rfl rfl

theorem c75 (xs : List Trip) (hl : xs.length ≤ 1048576) (k : Int) :
    CallOk Tryz.prog 75 [.imm (.list (xs.map Trip.enc)), .imm (.fn 76 [.ptr [.int .i64 k]])] { res := [.imm (.int .i64 (findT xs k))] } := by
  refine callOk_of tyOk Tryz.func75 rfl rfl (le_of_ble rfl) (le_of_ble rfl) (mutOk_imm rfl _) ?_
  repeat' first | refine go_seq ?_ | refine go_region ?_ | ((first | refine go_op rfl ?_ | refine go_nil ?_) <;> conv => whnf) | ((first | refine go_loadB ?_ | refine ⟨by kernel_rfl, ?_⟩ | refine go_ret ?_) <;> conv => whnf) | refine go_block ?_ | ((first | refine go_skip ?_ | refine go_exit ?_) <;> conv => whnf) | refine go_true rfl ?_ | refine go_false rfl ?_ | refine go_cond rfl (fun h => ?_) (fun h => ?_) | refine ⟨rfl, ?_⟩ | ((first | refine ⟨trivial, ?_⟩ | refine ⟨le_of_ble rfl, ?_⟩) <;> conv => whnf) | fail
  refine go_loop (α := Nat) (fun i => i ≤ xs.length ∧ (xs.take i).any (fun y => decide (y.id = k)) = false) (fun i => xs.length - i) (fun i => st Tryz.f75.ntmps [(0, .imm (.list (xs.map Trip.enc))), (1, .imm (.fn 76 [.ptr [.int .i64 k]])), (7, .imm (.int .i64 (xs.map Trip.enc).length)), (8, .imm (.int .i64 (i : Nat)))] [] []) 0
    ⟨Nat.zero_le _, rfl⟩ (ref_st0 rfl ⟨rfl, rfl, rfl, rfl, trivial⟩ rfl) ?_
  rintro i ⟨hi, ha⟩
  unfold findT
  cases hx : xs[i]? with
  | none =>
    have hge := le_of_at hx
    rw [List.take_of_length_le hge] at ha
    repeat' first | refine go_seq ?_ | refine go_region ?_ | ((first | refine go_op rfl ?_ | refine go_nil ?_) <;> conv => whnf) | ((first | refine go_loadB ?_ | refine ⟨by kernel_rfl, ?_⟩ | refine go_ret ?_) <;> conv => whnf) | refine go_block ?_ | ((first | refine go_skip ?_ | refine go_exit ?_) <;> conv => whnf) | refine go_true rfl ?_ | refine go_false rfl ?_ | refine go_cond rfl (fun h => ?_) (fun h => ?_) | refine ⟨rfl, ?_⟩ | ((first | refine ⟨trivial, ?_⟩ | refine ⟨le_of_ble rfl, ?_⟩) <;> conv => whnf) | fail
    all_goals first
      | exact ret_imm rfl rfl rfl rfl (by rw [idxF_miss ha]) rfl
      | (exfalso; simp at h; omega)
  | some v =>
    have hlt := lt_of_at hx
    have hr := row_at Trip.enc hx
    have hp := c76 k v
    repeat' first | refine go_seq ?_ | refine go_region ?_ | ((first | refine go_op rfl ?_ | refine go_nil ?_ | refine go_call [] (hp) rfl rfl rfl rfl ?_ | refine go_idx rfl rfl rfl rfl (by omega) hr rfl ?_) <;> conv => whnf) | ((first | refine go_loadB ?_ | refine ⟨by kernel_rfl, ?_⟩ | refine go_ret ?_) <;> conv => whnf) | refine go_block ?_ | ((first | refine go_skip ?_ | refine go_exit ?_) <;> conv => whnf) | refine go_true rfl ?_ | refine go_false rfl ?_ | refine go_cond rfl (fun h => ?_) (fun h => ?_) | refine ⟨rfl, ?_⟩ | ((first | refine ⟨trivial, ?_⟩ | refine ⟨le_of_ble rfl, ?_⟩) <;> conv => whnf) | fail
    all_goals first
      | exact ret_imm rfl rfl rfl rfl (by rw [idxF_hit hx h ha]) rfl
      | exact go_next (i + 1) ⟨by omega, any_next hx ha h⟩ (by omega) (ref_st0 rfl ⟨rfl, rfl, rfl, next_i (by omega), trivial⟩ rfl)
      | (exfalso; simp at h; omega)

theorem c41 (t : Timetable) (hl : t.trips.length ≤ 1048576) (k : Int) : CallOk Tryz.prog 41 [.imm (.agg t.enc), .imm (.int .i64 k)] { res := [.imm (.int .i64 (findT t.trips k))] } := by
  refine callOk_of tyOk Tryz.func41 rfl rfl (le_of_ble rfl) (le_of_ble rfl) (mutOk_imm rfl _) ?_
  have hc := c75 t.trips hl k
  repeat' first | refine go_seq ?_ | refine go_region ?_ | ((first | refine go_op rfl ?_ | refine go_nil ?_ | refine go_call [] (hc) rfl rfl rfl rfl ?_) <;> conv => whnf) | ((first | refine go_loadB ?_ | refine ⟨by kernel_rfl, ?_⟩ | refine go_ret ?_) <;> conv => whnf) | ((first | refine go_skip ?_) <;> conv => whnf) | refine ⟨rfl, ?_⟩ | ((first | refine ⟨trivial, ?_⟩ | refine ⟨le_of_ble rfl, ?_⟩) <;> conv => whnf) | fail
  all_goals exact ret_imm rfl rfl rfl rfl rfl rfl

theorem c98 (xs : List Trip) (hl : xs.length ≤ 1048576) (v : Trip) :
    CallOk Tryz.prog 98 [.imm (.list (xs.map Trip.enc)), .imm (.agg v.enc)] { res := [.imm (.int .i64 (placeT xs v))] } := by
  refine callOk_of tyOk Tryz.func98 rfl rfl (le_of_ble rfl) (le_of_ble rfl) (mutOk_imm rfl _) ?_
  repeat' first | refine go_seq ?_ | refine go_region ?_ | refine go_draw drawsOk ?_ | ((first | refine go_op rfl ?_ | refine go_nil ?_ | refine go_dop rfl ?_ | refine go_dend (by kernel_rfl) ?_) <;> conv => whnf) | ((first | refine go_loadB ?_ | refine ⟨by kernel_rfl, ?_⟩ | refine go_ret ?_) <;> conv => whnf) | refine go_block ?_ | ((first | refine go_skip ?_ | refine go_exit ?_) <;> conv => whnf) | refine go_true rfl ?_ | refine go_false rfl ?_ | refine go_cond rfl (fun h => ?_) (fun h => ?_) | refine ⟨rfl, ?_⟩ | ((first | refine ⟨trivial, ?_⟩ | refine ⟨le_of_ble rfl, ?_⟩) <;> conv => whnf) | fail
  refine go_loop (α := Nat) (fun i => i ≤ xs.length ∧ (xs.take i).any (fun x => v.beq x) = false) (fun i => xs.length - i) (fun i => st Tryz.f98.ntmps [(0, .imm (.list (xs.map Trip.enc))), (3, .box 1000 0), (7, .imm (.int .i64 (xs.map Trip.enc).length)), (8, .imm (.int .i64 (i : Nat)))] [(1000, .box 43 (v.enc.map .imm))] []) 0
    ⟨Nat.zero_le _, rfl⟩ (ref_st (fun _ => nid 1 3) rfl ⟨rfl, ⟨rfl, rfl⟩, rfl, rfl, trivial⟩ ⟨⟨rfl, wavs_imm _⟩, trivial⟩ (by simp) rfl (by simp)) ?_
  rintro i ⟨hi, ha⟩
  unfold placeT
  cases hx : xs[i]? with
  | none =>
    have hge := le_of_at hx
    rw [List.take_of_length_le hge] at ha
    repeat' first | refine go_seq ?_ | refine go_region ?_ | refine go_draw drawsOk ?_ | ((first | refine go_op rfl ?_ | refine go_nil ?_ | refine go_dop rfl ?_ | refine go_dend (by kernel_rfl) ?_) <;> conv => whnf) | ((first | refine go_loadB ?_ | refine ⟨by kernel_rfl, ?_⟩ | refine go_ret ?_) <;> conv => whnf) | refine go_block ?_ | ((first | refine go_skip ?_ | refine go_exit ?_) <;> conv => whnf) | refine go_true rfl ?_ | refine go_false rfl ?_ | refine go_cond rfl (fun h => ?_) (fun h => ?_) | refine ⟨rfl, ?_⟩ | ((first | refine ⟨trivial, ?_⟩ | refine ⟨le_of_ble rfl, ?_⟩) <;> conv => whnf) | fail
    all_goals first
      | exact ret_imm rfl rfl rfl rfl (by rw [idxF_miss ha]) rfl
      | (exfalso; simp at h; omega)
  | some x =>
    have hlt := lt_of_at hx
    have hr := row_at Trip.enc hx
    have hq : (decide (v.id = x.id) && (decide (v.line = x.line) && (decide (v.start = x.start) && true))) = v.beq x := by
      simp only [Trip.beq, Bool.and_true]
    repeat' first | refine go_seq ?_ | refine go_region ?_ | refine go_draw drawsOk ?_ | ((first | refine go_op rfl ?_ | refine go_nil ?_ | refine go_dop rfl ?_ | refine go_dend (by kernel_rfl) ?_ | refine go_idx rfl rfl rfl rfl (by omega) hr rfl ?_) <;> conv => whnf) | ((first | refine go_loadB ?_ | refine ⟨by kernel_rfl, ?_⟩ | refine go_ret ?_) <;> conv => whnf) | refine go_block ?_ | ((first | refine go_skip ?_ | refine go_exit ?_) <;> conv => whnf) | refine go_true rfl ?_ | refine go_false rfl ?_ | refine go_cond rfl (fun h => ?_) (fun h => ?_) | refine ⟨rfl, ?_⟩ | ((first | refine ⟨trivial, ?_⟩ | refine ⟨le_of_ble rfl, ?_⟩) <;> conv => whnf) | fail
    all_goals first
      | (rw [hq] at h; exact ret_imm rfl rfl rfl rfl (by rw [idxF_hit hx h ha]) rfl)
      | (rw [hq] at h; exact go_next (i + 1) ⟨by omega, any_next hx ha h⟩ (by omega) (ref_st id rfl ⟨rfl, ⟨rfl, rfl⟩, rfl, next_i (by omega), trivial⟩ ⟨⟨rfl, wavs_imm _⟩, trivial⟩ (by simp) rfl (by simp)))
      | (exfalso; simp at h; omega)
      | trace_state
end Go.Proofs.YtcfhmncbfekoaaaGreatDoor

