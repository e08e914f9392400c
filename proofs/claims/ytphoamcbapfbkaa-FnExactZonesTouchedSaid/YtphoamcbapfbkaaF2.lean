/- Parts of lines and the zones that they touch. -/
import Derived.Test.YtphoamcbapfbkaaZ1
import Derived.Test.YtphoamcbapfbkaaF1
import Derived.Test.YtphoamcbapfbkaaAmV
namespace Go.Am
open Go
theorem go_sliceI {T : TypeId → Option TI} {m : Nat → Option O} {tt e : TypeId} {K : Eff → Prop} {kd kd' : IntKind} {i j : Nat} {rows rr : List (List D)} {a1 b1 : Nat} {z1 : List D} {te : TI} {x l h : AV} (hx : x = .imm (.list rows)) (hT : T tt = some ⟨.slice e, a1, b1, z1⟩) (hE : T e = some te)
    (hs : ∀ r ∈ rows, r.length = te.size) (hl : l = .imm (.int kd (i : Nat))) (hh : h = .imm (.int kd' (j : Nat))) (hij : i ≤ j) (hj : j ≤ rows.length) (hr : (rows.drop i).take (j - i) = rr) (hK : K ⟨.imm (.list rr), []⟩) : opSlice T m tt x (some l) (some h) none K := by
  subst hx hl hh hr
  unfold opSlice
  refine ⟨rfl, ?_⟩
  simp only [hT, hE]
  refine ⟨hs, ?_⟩
  show (0 : Int) ≤ (i : Nat) ∧ _
  refine ⟨by omega, ?_, ?_, ?_⟩
  · show ((i : Nat) : Int) ≤ (j : Nat); omega
  · show ((j : Nat) : Int) ≤ rows.length; omega
  · simpa using hK
end Go.Am
namespace Go.Proofs.Ytphoamcbapfbkaa
open Go Go.Am
set_option maxRecDepth 100000
set_option maxHeartbeats 4000000
attribute [local irreducible] amOps amC opCall opIndexAddr opPick retQ opMake opStore amDraw opAppend opLoad opNilCmp opIndex opSlice

/-- Places on a line, in order. -/
def partOk (n : Network) (line a b : Int) : Bool :=
  match n.lines[line.toNat]? with
  | some l => decide (0 ≤ line) && (decide (0 ≤ a) && decide (a ≤ b) && decide (b < (l.stops.length : Int)))
  | none => false
/-- The zones of a part of a line. -/
def partZ (n : Network) (zs : List Int) (line a b : Int) : List Int :=
  match n.lines[line.toNat]? with
  | some l => ((l.stops.drop a.toNat).take (b.toNat + 1 - a.toNat)).map fun s => zs.getD s.toNat 0
  | none => []

theorem zones_at {n : Network} {zs : List Int} (h : zonesOk n zs = true) {k : Nat} {l : Line} (hl : n.lines[k]? = some l) {s : Int} (hs : s ∈ l.stops) : 0 ≤ s ∧ ∃ z, zs[s.toNat]? = some z ∧ inR z 1 9 = true := by
  unfold zonesOk netOk at h
  simp only [Bool.and_eq_true, decide_eq_true_eq] at h
  obtain ⟨⟨_, h1⟩, h2, h3⟩ := h
  have h4 := List.all_eq_true.1 h1 l (List.mem_of_getElem? hl)
  unfold lineOk at h4
  simp only [Bool.and_eq_true] at h4
  have h5 := h4.1.2
  unfold stopsOk at h5
  obtain ⟨j, hj⟩ := List.getElem?_of_mem hs
  have h6 := (allI_iff.1 h5) j s hj
  simp only [Bool.and_eq_true] at h6
  have h7 := (inR_iff _ _ _).1 h6.1
  refine ⟨h7.1, ?_⟩
  have hlt : s.toNat < zs.length := by omega
  exact ⟨zs[s.toNat], List.getElem?_eq_getElem hlt, List.all_eq_true.1 h3 _ (List.getElem_mem hlt)⟩
theorem partZ_in {n : Network} {zs : List Int} (h : zonesOk n zs = true) (line a b : Int) : ∀ z ∈ partZ n zs line a b, inR z 1 9 = true := by
  intro z hz
  unfold partZ at hz
  split at hz
  · rename_i l hl
    obtain ⟨s, hs, rfl⟩ := List.mem_map.1 hz
    have hs' : s ∈ l.stops := List.mem_of_mem_drop (List.mem_of_mem_take hs)
    obtain ⟨_, z, h1, h2⟩ := zones_at h hl hs'
    rw [List.getD_eq_getElem?_getD, h1]
    exact h2
  · cases hz
theorem shl_zone {z : Int} (h : inR z 1 9 = true) : IntKind.i64.wrap (1 * 2 ^ (min z.toNat 64)) = ((2 ^ z.toNat : Nat) : Int) := by
  have h1 := (inR_iff _ _ _).1 h
  have e : ∀ k : Fin 10, IntKind.i64.wrap (1 * 2 ^ (min k.val 64)) = ((2 ^ k.val : Nat) : Int) := by decide
  exact e ⟨z.toNat, by omega⟩
theorem shr_zone {m z : Nat} (hm : m < 1024) (hz : z < 10) : bits .and .i64 ((m : Int).fdiv (2 ^ (min z 64))) 1 = if m.testBit z then 1 else 0 := by
  rw [Nat.min_eq_left (by omega)]
  exact and_zone hm hz

theorem c86 (n : Network) (s : Int) : CallOk Try.prog 86 [.imm (.agg n.enc), .imm (.int .i64 s)] { res := [.imm (.bool (inR s 0 ((n.lines.length : Int) - 1)))] } := by
  refine callOk_of tyOk Try.func86 rfl rfl (le_of_ble rfl) (le_of_ble rfl) (mutOk_imm rfl _) ?_
  repeat' first | refine go_seq ?_ | refine go_region ?_ | refine go_miss rfl rfl rfl ?_ | refine go_undef rfl rfl rfl ?_ | ((first | refine go_op rfl ?_ | refine go_nil ?_ | refine go_hit rfl rfl rfl ?_ | refine go_splitT rfl rfl rfl (fun h => ?_) (fun h => ?_) | refine go_splitF rfl rfl rfl (fun h => ?_) (fun h => ?_) | refine go_pickT rfl ?_ | refine go_pickF rfl ?_ | refine go_pick rfl (fun h => ?_) (fun h => ?_)) <;> conv => whnf) | ((first | refine go_loadB ?_ | refine ⟨by kernel_rfl, ?_⟩ | refine go_ret ?_) <;> conv => whnf) | ((first | refine go_skip ?_) <;> conv => whnf) | refine ⟨rfl, ?_⟩ | ((first | refine ⟨trivial, ?_⟩ | refine ⟨le_of_ble rfl, ?_⟩) <;> conv => whnf) | fail
  all_goals refine ret_imm rfl rfl rfl rfl ?_ rfl
  all_goals first | (simp_all [inR]; done) | (simp_all [inR]; omega)

theorem c46 (n : Network) (line a b : Int) : CallOk Try.prog 46 [.imm (.agg n.enc), .imm (.int .i64 line), .imm (.int .i64 a), .imm (.int .i64 b)] { res := [.imm (.bool (partOk n line a b))] } := by
  refine callOk_of tyOk Try.func46 rfl rfl (le_of_ble rfl) (le_of_ble rfl) (mutOk_imm rfl _) ?_
  have hc := c86 n line
  by_cases h0 : 0 ≤ line
  · obtain ⟨k, rfl⟩ := Int.eq_ofNat_of_zero_le h0
    cases hL : n.lines[k]? with
    | none =>
      have hge := le_of_at hL
      have hi : inR (k : Int) 0 ((n.lines.length : Int) - 1) = false := by unfold inR; simp; omega
      have hp : partOk n k a b = false := by unfold partOk; rw [Int.toNat_natCast, hL]
      rw [hi] at hc
      rw [hp]
      repeat' first | refine go_seq ?_ | refine go_region ?_ | refine go_miss rfl rfl rfl ?_ | refine go_undef rfl rfl rfl ?_ | ((first | refine go_op rfl ?_ | refine go_nil ?_ | refine go_hit rfl rfl rfl ?_ | refine go_splitT rfl rfl rfl (fun h => ?_) (fun h => ?_) | refine go_splitF rfl rfl rfl (fun h => ?_) (fun h => ?_) | refine go_pickT rfl ?_ | refine go_pickF rfl ?_ | refine go_pick rfl (fun h => ?_) (fun h => ?_) | refine go_call [] (hc) rfl rfl rfl rfl ?_) <;> conv => whnf) | ((first | refine go_loadB ?_ | refine ⟨by kernel_rfl, ?_⟩ | refine go_ret ?_) <;> conv => whnf) | ((first | refine go_skip ?_) <;> conv => whnf) | refine ⟨rfl, ?_⟩ | ((first | refine ⟨trivial, ?_⟩ | refine ⟨le_of_ble rfl, ?_⟩) <;> conv => whnf) | fail
      all_goals exact ret_imm rfl rfl rfl rfl rfl rfl
    | some l =>
      have hlt := lt_of_at hL
      have hr := row_at Line.enc hL
      have hi : inR (k : Int) 0 ((n.lines.length : Int) - 1) = true := by rw [inR_iff]; omega
      have hp : partOk n k a b = (decide (0 ≤ a) && decide (a ≤ b) && decide (b < (l.stops.length : Int))) := by unfold partOk; rw [Int.toNat_natCast, hL]; simp
      rw [hi] at hc
      rw [hp]
      have hsl : ((l.stops.map intRow).length : Int) = l.stops.length := by rw [List.length_map]
      repeat' first | refine go_seq ?_ | refine go_region ?_ | refine go_miss rfl rfl rfl ?_ | refine go_undef rfl rfl rfl ?_ | ((first | refine go_op rfl ?_ | refine go_nil ?_ | refine go_hit rfl rfl rfl ?_ | refine go_splitT rfl rfl rfl (fun h => ?_) (fun h => ?_) | refine go_splitF rfl rfl rfl (fun h => ?_) (fun h => ?_) | refine go_pickT rfl ?_ | refine go_pickF rfl ?_ | refine go_pick rfl (fun h => ?_) (fun h => ?_) | refine go_call [] (hc) rfl rfl rfl rfl ?_ | refine go_idx rfl rfl rfl rfl (by omega) hr rfl ?_) <;> conv => whnf) | ((first | refine go_loadB ?_ | refine ⟨by kernel_rfl, ?_⟩ | refine go_ret ?_) <;> conv => whnf) | ((first | refine go_skip ?_) <;> conv => whnf) | refine ⟨rfl, ?_⟩ | ((first | refine ⟨trivial, ?_⟩ | refine ⟨le_of_ble rfl, ?_⟩) <;> conv => whnf) | fail
      all_goals refine ret_imm rfl rfl rfl rfl ?_ rfl
      all_goals first | (simp_all; done) | (simp_all; omega)
  · have hi : inR line 0 ((n.lines.length : Int) - 1) = false := by unfold inR; simp; omega
    have hp : partOk n line a b = false := by unfold partOk; split <;> simp; omega
    rw [hi] at hc
    rw [hp]
    repeat' first | refine go_seq ?_ | refine go_region ?_ | refine go_miss rfl rfl rfl ?_ | refine go_undef rfl rfl rfl ?_ | ((first | refine go_op rfl ?_ | refine go_nil ?_ | refine go_hit rfl rfl rfl ?_ | refine go_splitT rfl rfl rfl (fun h => ?_) (fun h => ?_) | refine go_splitF rfl rfl rfl (fun h => ?_) (fun h => ?_) | refine go_pickT rfl ?_ | refine go_pickF rfl ?_ | refine go_pick rfl (fun h => ?_) (fun h => ?_) | refine go_call [] (hc) rfl rfl rfl rfl ?_) <;> conv => whnf) | ((first | refine go_loadB ?_ | refine ⟨by kernel_rfl, ?_⟩ | refine go_ret ?_) <;> conv => whnf) | ((first | refine go_skip ?_) <;> conv => whnf) | refine ⟨rfl, ?_⟩ | ((first | refine ⟨trivial, ?_⟩ | refine ⟨le_of_ble rfl, ?_⟩) <;> conv => whnf) | fail
    all_goals exact ret_imm rfl rfl rfl rfl rfl rfl

theorem c47 (n : Network) (zs : List Int) (hz : zonesOk n zs = true) (hf : n.fit) (line a b : Int) (hp : partOk n line a b = true) : CallOk Try.prog 47 [.imm (.agg n.enc), .imm (.list (zs.map intRow)), .imm (.int .i64 line), .imm (.int .i64 a), .imm (.int .i64 b)] { res := [.imm (.int .i64 ((zadd 0 (partZ n zs line a b) : Nat) : Int))] } := by
  refine callOk_of tyOk Try.func47 rfl rfl (le_of_ble rfl) (le_of_ble rfl) (mutOk_imm rfl _) ?_
  unfold partOk at hp
  split at hp
  case h_2 => cases hp
  rename_i l hL
  simp only [Bool.and_eq_true, decide_eq_true_eq] at hp
  obtain ⟨h0, ⟨ha, hab⟩, hb⟩ := hp
  have hPin := partZ_in hz line a b
  have hPd : partZ n zs line a b = ((l.stops.drop a.toNat).take (b.toNat + 1 - a.toNat)).map fun s => zs.getD s.toNat 0 := by unfold partZ; rw [hL]
  generalize partZ n zs line a b = Z at *
  obtain ⟨k, rfl⟩ := Int.eq_ofNat_of_zero_le h0
  obtain ⟨i, rfl⟩ := Int.eq_ofNat_of_zero_le ha
  obtain ⟨j, rfl⟩ := Int.eq_ofNat_of_zero_le (Int.le_trans ha hab)
  simp only [Int.toNat_natCast] at hL hPd
  have hr := row_at Line.enc hL
  have hll : l.stops.length ≤ 1048576 := (hf.2.2.2 l (List.mem_of_getElem? hL)).2.1
  have hmem : ∀ s ∈ (l.stops.drop i).take (j + 1 - i), s ∈ l.stops := fun s hs => List.mem_of_mem_drop (List.mem_of_mem_take hs)
  have hrr : ((l.stops.map intRow).drop i).take (j + 1 - i) = ((l.stops.drop i).take (j + 1 - i)).map intRow := by rw [List.map_take, List.map_drop]
  generalize hP : (l.stops.drop i).take (j + 1 - i) = P at *
  have hPl : P.length ≤ 1048576 := by rw [← hP, List.length_take, List.length_drop]; omega
  have hZl : Z.length = P.length := by rw [hPd, List.length_map]
  repeat' first | refine go_seq ?_ | refine go_region ?_ | ((first | refine go_op rfl ?_ | refine go_nil ?_ | refine go_idx rfl rfl rfl rfl (by omega) hr rfl ?_ | refine go_sliceI (i := i) (j := j + 1) rfl rfl rfl (by intro r hr; obtain ⟨_, _, rfl⟩ := List.mem_map.1 hr; rfl) rfl (next_i (by omega)) (by omega) (by rw [List.length_map]; omega) hrr ?_) <;> conv => whnf) | ((first | refine go_loadB ?_ | refine ⟨by kernel_rfl, ?_⟩ | refine go_ret ?_) <;> conv => whnf) | refine go_block ?_ | ((first | refine go_skip ?_ | refine go_exit ?_) <;> conv => whnf) | refine go_true rfl ?_ | refine go_false rfl ?_ | refine go_cond rfl (fun h => ?_) (fun h => ?_) | refine ⟨rfl, ?_⟩ | ((first | refine ⟨trivial, ?_⟩ | refine ⟨le_of_ble rfl, ?_⟩) <;> conv => whnf) | fail
  refine go_loop (α := Nat) (fun q => q ≤ P.length) (fun q => P.length - q)
    (fun q => st Try.f47.ntmps [(1, .imm (.list (zs.map intRow))), (11, .imm (.int .i64 ((zadd 0 (Z.take q) : Nat) : Int))), (23, .imm (.list (P.map intRow))), (24, .imm (.int .i64 (P.map intRow).length)), (25, .imm (.int .i64 (q : Nat)))] [] []) 0
    (Nat.zero_le _) (ref_st0 rfl ⟨rfl, rfl, rfl, rfl, rfl, trivial⟩ rfl) ?_
  intro q hq
  cases hx : P[q]? with
  | none =>
    have hge := le_of_at hx
    rw [List.take_of_length_le (by omega)]
    repeat' first | refine go_seq ?_ | refine go_region ?_ | ((first | refine go_op rfl ?_ | refine go_nil ?_) <;> conv => whnf) | ((first | refine go_loadB ?_ | refine ⟨by kernel_rfl, ?_⟩ | refine go_ret ?_) <;> conv => whnf) | refine go_block ?_ | ((first | refine go_skip ?_ | refine go_exit ?_) <;> conv => whnf) | refine go_true rfl ?_ | refine go_false rfl ?_ | refine go_cond rfl (fun h => ?_) (fun h => ?_) | refine ⟨rfl, ?_⟩ | ((first | refine ⟨trivial, ?_⟩ | refine ⟨le_of_ble rfl, ?_⟩) <;> conv => whnf) | fail
    all_goals first
      | exact ret_imm rfl rfl rfl rfl rfl rfl
      | (exfalso; simp at h; omega)
      | (exfalso; have h' := of_decide_eq_false h; omega)
      | (exfalso; have h' := of_decide_eq_true h; omega)
      | (exfalso; rename_i hq; have h' := of_decide_eq_true hq; omega)
      | (exfalso; rename_i hq; have h' := of_decide_eq_false hq; omega)
      | (exfalso; rename_i hq _; have h' := of_decide_eq_true hq; omega)
      | (exfalso; rename_i hq _; have h' := of_decide_eq_false hq; omega)
      | trace_state
  | some s =>
    have hlt := lt_of_at hx
    have hr1 := row_at intRow hx
    obtain ⟨hs0, z, hz1, hz2⟩ := zones_at hz hL (hmem s (List.mem_of_getElem? hx))
    have hr2 : (zs.map intRow)[s.toNat]? = some (intRow z) := by rw [List.getElem?_map, hz1]; rfl
    have hzq : Z[q]? = some z := by rw [hPd, List.getElem?_map, hx, Option.map_some, List.getD_eq_getElem?_getD, hz1]; rfl
    have hnx := zadd_next 0 hzq
    have hz3 := (inR_iff _ _ _).1 hz2
    have hz0 : 0 ≤ z := by omega
    have hlo : zadd 0 (Z.take q) < 1024 := zadd_lt _ _ (by omega) fun x hx => hPin x (List.mem_of_mem_take hx)
    repeat' first | refine go_seq ?_ | refine go_region ?_ | ((first | refine go_op rfl ?_ | refine go_nil ?_ | refine go_idx rfl rfl rfl rfl (by omega) hr1 rfl ?_ | refine go_idx rfl rfl rfl rfl hs0 hr2 rfl ?_ | refine ⟨hz0, ?_⟩) <;> conv => whnf) | ((first | refine go_loadB ?_ | refine ⟨by kernel_rfl, ?_⟩ | refine go_ret ?_) <;> conv => whnf) | refine go_block ?_ | ((first | refine go_skip ?_ | refine go_exit ?_) <;> conv => whnf) | refine go_true rfl ?_ | refine go_false rfl ?_ | refine go_cond rfl (fun h => ?_) (fun h => ?_) | refine ⟨rfl, ?_⟩ | ((first | refine ⟨trivial, ?_⟩ | refine ⟨le_of_ble rfl, ?_⟩) <;> conv => whnf) | fail
    all_goals first
      | (refine go_next (q + 1) (by omega) (by omega) (ref_st0 rfl ⟨rfl, ?_, rfl, rfl, next_i (by omega), trivial⟩ rfl)
         rw [hnx]
         show AV.imm (.int .i64 (bits .or .i64 _ (IntKind.i64.wrap (1 * 2 ^ (min z.toNat 64))))) = _
         rw [shl_zone hz2, or_zone hlo hz2]
         done)
      | (exfalso; simp at h; omega)
      | (exfalso; have h' := of_decide_eq_false h; omega)
      | (exfalso; have h' := of_decide_eq_true h; omega)
      | (exfalso; rename_i hq; have h' := of_decide_eq_true hq; omega)
      | (exfalso; rename_i hq; have h' := of_decide_eq_false hq; omega)
      | (exfalso; rename_i hq _; have h' := of_decide_eq_true hq; omega)
      | (exfalso; rename_i hq _; have h' := of_decide_eq_false hq; omega)
      | trace_state
end Go.Proofs.Ytphoamcbapfbkaa

