/- The draws: what the reference's reader of bytes takes. -/
import Derived.Test.YteoiohkdhdpkoaaC1
import Derived.Laws.BitsLemmas
namespace Go.Am
open Go
/-- The one lent variable comes back, with data; the result was an array of this call's own. -/
theorem ret_box1own {T : TypeId → Option TI} {fn : Func} {ty : TypeId} {ds ds' : List D} {ins : List In} {id id2 off len ty2 sz : Nat} {rows rows' : List (List D)} {rv : ResultVar} {σ : S} (hr : fn.results.toList = [rv]) (hmi : mutIdx (.box ty ds :: ins) = [0]) (hp : σ.pm = [id])
    (hv : retAV T σ rv = .own id2 off len) (hm2 : σ.m id2 = some (.arr ty2 sz rows')) (hd : (rows'.drop off).take len = rows) (hne : id2 ≠ id) (hm : σ.m id = some (.box ty (ds'.map .imm))) :
    retQ T fn (.box ty ds :: ins) { res := [.imm (.list rows)], muts := [.box ty (ds'.map .imm)], sep := false } .ret σ := by
  subst hd
  refine ret_all (avs := [.own id2 off len]) (by rw [hr]; simp only [List.map_cons, List.map_nil, hv]) ⟨?_, trivial⟩ (by simp [ownIds]) (by rw [hp]; simp) ?_
  · simp only [Ret1, hm2]
    exact ⟨trivial, (fun e => by cases e), by rw [hp]; simpa using hne⟩
  · rw [hmi, hp]
    exact ⟨hm, fun e => (by cases e), trivial⟩
theorem ret_box1two {T : TypeId → Option TI} {fn : Func} {ty : TypeId} {ds ds' : List D} {ins : List In} {id : Nat} {r1 r2 : ResultVar} {a a' b b' : D} {σ : S} (hr : fn.results.toList = [r1, r2]) (hmi : mutIdx (.box ty ds :: ins) = [0]) (hp : σ.pm = [id])
    (hv : retAV T σ r1 = .imm a') (hv2 : retAV T σ r2 = .imm b') (hd : a' = a) (hd2 : b' = b) (hm : σ.m id = some (.box ty (ds'.map .imm))) :
    retQ T fn (.box ty ds :: ins) { res := [.imm a, .imm b], muts := [.box ty (ds'.map .imm)], sep := false } .ret σ := by
  refine ret_all (avs := [.imm a', .imm b']) (by rw [hr]; simp only [List.map_cons, List.map_nil, hv, hv2]) ⟨⟨hd, fun e => by cases e⟩, ⟨hd2, fun e => by cases e⟩, trivial⟩ (by simp [ownIds]) (by rw [hp]; simp) ?_
  rw [hmi, hp]
  exact ⟨hm, fun e => (by cases e), trivial⟩
end Go.Am
namespace Go.Proofs.Yteoiohkdhdpkoaa
open Go Go.Am
set_option maxRecDepth 100000
set_option maxHeartbeats 4000000
attribute [local irreducible] amOps amC opCall opIndexAddr opPick retQ opMake opStore amDraw opAppend opLoad opNilCmp opIndex opSlice

def byteRow (b : Int) : List D := [.int .u8 b]
/-- A reader: its bytes, its place, its seed. -/
def curD (xs : List Int) (k : Nat) (s : Int) : List D := [.list (xs.map byteRow), .int .i64 (k : Nat), .int .u64 s]
/-- Bytes. -/
def areB (xs : List Int) : Prop := ∀ x ∈ xs, 0 ≤ x ∧ x ≤ 255
def seedN (s b : Int) : Int := IntKind.u64.wrap (IntKind.u64.wrap (IntKind.u64.wrap (s * 6364136223846793005) + IntKind.u64.wrap b) + 900900)
def seedV (s : Int) : Int := IntKind.i64.wrap (bits .and .u64 (s.fdiv (2 ^ (min 40 64))) 255)
theorem wrap_u64 (n : Int) : 0 ≤ IntKind.u64.wrap n ∧ IntKind.u64.wrap n < 18446744073709551616 := by
  have : IntKind.u64.wrap n = n % 18446744073709551616 := by simp [IntKind.wrap, IntKind.bits, IntKind.signed]
  rw [this]
  omega
theorem seedV_in {s : Int} (h0 : 0 ≤ s) (h1 : s < 18446744073709551616) : 0 ≤ seedV s ∧ seedV s ≤ 255 := by
  unfold seedV
  obtain ⟨n, rfl⟩ := Int.eq_ofNat_of_zero_le h0
  have e1 : ((n : Int).fdiv (2 ^ (min 40 64))) = ((n / 2 ^ 40 : Nat) : Int) := by
    rw [Int.fdiv_eq_ediv_of_nonneg _ (by decide)]
    rfl
  have hq : n / 2 ^ 40 < 2 ^ 64 := by
    have : n < 2 ^ 64 := by omega
    exact Nat.lt_of_le_of_lt (Nat.div_le_self _ _) this
  have e2 := (bits_nat .u64 64 (by decide) (fun n h1 h2 => by
    have : IntKind.u64.wrap n = n % 18446744073709551616 := by simp [IntKind.wrap, IntKind.bits, IntKind.signed]
    rw [this]
    have : (2 : Int) ^ 64 = 18446744073709551616 := by decide
    omega) (n / 2 ^ 40) 255 hq (by decide)).1
  rw [e1]
  show 0 ≤ IntKind.i64.wrap (bits .and .u64 ((n / 2 ^ 40 : Nat) : Int) ((255 : Nat) : Int)) ∧ IntKind.i64.wrap (bits .and .u64 ((n / 2 ^ 40 : Nat) : Int) ((255 : Nat) : Int)) ≤ 255
  rw [e2]
  have h3 : n / 2 ^ 40 &&& 255 ≤ 255 := Nat.and_le_right
  rw [wrap_small (by omega) (by omega)]
  omega

theorem next_ok (xs : List Int) (hx : areB xs) (k : Nat) (hk : k ≤ 1000000) (s : Int) : ∃ v s' : Int, (0 ≤ v ∧ v ≤ 255) ∧
    CallOk Try.prog 35 [.box 48 (curD xs k s)] { res := [.imm (.int .i64 v)], muts := [.box 48 ((curD xs (k + 1) s').map .imm)], sep := false } := by
  have hk1 : IntKind.i64.wrap ((k : Int) + 1) = ((k + 1 : Nat) : Int) := by rw [wrap_small (by omega) (by omega)]; omega
  have hxl : ((xs.map byteRow).length : Int) = xs.length := by rw [List.length_map]
  cases hb : xs[k]? with
  | some b =>
    have hlt := lt_of_at hb
    have hb2 := hx b (List.mem_of_getElem? hb)
    have hr := row_at byteRow hb
    have e1 : IntKind.i64.wrap b = b := wrap_small (by omega) (by omega)
    refine ⟨b, seedN s b, hb2, ?_⟩
    refine callOk_of tyOk Try.func35 rfl rfl (le_of_ble rfl) (le_of_ble rfl) (mutOk_box0 rfl) ?_
    have hle : decide (IntKind.i64.wrap ((k : Int) + 1) ≤ ((xs.map byteRow).length : Int)) = true := by rw [hk1, hxl]; exact decide_eq_true (by omega)
    repeat' first | refine go_seq ?_ | refine go_region ?_ | refine go_draw drawsOk ?_ | ((first | refine go_op rfl ?_ | refine go_nil ?_ | refine go_storeBox rfl rfl rfl rfl rfl rfl ?_ | refine go_dop rfl ?_ | refine go_dend (by kernel_rfl) ?_ | refine go_idx rfl rfl rfl rfl (by omega) hr rfl ?_) <;> conv => whnf) | ((first | refine go_loadB ?_ | refine ⟨by kernel_rfl, ?_⟩ | refine go_ret ?_) <;> conv => whnf) | ((first | refine go_skip ?_) <;> conv => whnf) | refine go_true rfl ?_ | refine go_false rfl ?_ | refine go_cond rfl (fun h => ?_) (fun h => ?_) | refine ⟨rfl, ?_⟩ | ((first | refine ⟨trivial, ?_⟩ | refine ⟨le_of_ble rfl, ?_⟩) <;> conv => whnf) | fail
    all_goals first
      | (refine ret_box1 rfl rfl rfl rfl ?_ ?_
         · show D.int .i64 (IntKind.i64.wrap b) = _
           rw [e1]
         · show some (O.box _ [_, AV.imm (.int .i64 (IntKind.i64.wrap ((k : Int) + 1))), AV.imm (.int .u64 (IntKind.u64.wrap (IntKind.u64.wrap (IntKind.u64.wrap (s * 6364136223846793005) + IntKind.u64.wrap (IntKind.i64.wrap b)) + 900900)))]) = _
           rw [hk1, e1]
           rfl
         done)
      | (exfalso; rw [hle] at h; cases h; done)
      | (exfalso; have h' := of_decide_eq_false h; omega)
      | (exfalso; rename_i hq; have h' := of_decide_eq_false hq; omega)
      | trace_state
  | none =>
    have hge := le_of_at hb
    refine ⟨seedV (seedN s 0), seedN s 0, seedV_in (wrap_u64 _).1 (wrap_u64 _).2, ?_⟩
    refine callOk_of tyOk Try.func35 rfl rfl (le_of_ble rfl) (le_of_ble rfl) (mutOk_box0 rfl) ?_
    have hle : decide (IntKind.i64.wrap ((k : Int) + 1) ≤ ((xs.map byteRow).length : Int)) = false := by rw [hk1, hxl]; exact decide_eq_false (by omega)
    repeat' first | refine go_seq ?_ | refine go_region ?_ | refine go_draw drawsOk ?_ | ((first | refine go_op rfl ?_ | refine go_nil ?_ | refine go_storeBox rfl rfl rfl rfl rfl rfl ?_ | refine go_dop rfl ?_ | refine go_dend (by kernel_rfl) ?_ | refine ⟨(by decide : (0 : Int) ≤ 40), ?_⟩) <;> conv => whnf) | ((first | refine go_loadB ?_ | refine ⟨by kernel_rfl, ?_⟩ | refine go_ret ?_) <;> conv => whnf) | ((first | refine go_skip ?_) <;> conv => whnf) | refine go_true rfl ?_ | refine go_false rfl ?_ | refine go_cond rfl (fun h => ?_) (fun h => ?_) | refine ⟨rfl, ?_⟩ | ((first | refine ⟨trivial, ?_⟩ | refine ⟨le_of_ble rfl, ?_⟩) <;> conv => whnf) | fail
    all_goals first
      | (refine ret_box1 rfl rfl rfl rfl ?_ ?_
         · rfl
         · show some (O.box _ [_, AV.imm (.int .i64 (IntKind.i64.wrap ((k : Int) + 1))), _]) = _
           rw [hk1]
           rfl
         done)
      | (exfalso; rw [hle] at h; cases h; done)
      | (exfalso; have h' := of_decide_eq_true h; omega)
      | (exfalso; rename_i hq; have h' := of_decide_eq_true hq; omega)
      | trace_state
end Go.Proofs.Yteoiohkdhdpkoaa

