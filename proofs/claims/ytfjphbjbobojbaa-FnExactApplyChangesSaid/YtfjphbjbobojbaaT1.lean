/- The walks of trips and of whether a timetable is valid. MADE BY PROGRAM (t1.py). -/
import Derived.Test.YtfjphbjbobojbaaN4
import Derived.Test.YtfjphbjbobojbaaAmC
namespace Go.Proofs.Ytfjphbjbobojbaa
open Go Go.Am
set_option maxRecDepth 100000
set_option maxHeartbeats 4000000
attribute [local irreducible] amOps amC opCall opIndexAddr opPick retQ opMake opStore amDraw opAppend opLoad opNilCmp opIndex opSlice

def timeOk (x : Int) : Bool := inR x 0 1799
theorem c73 (x : Int) : CallOk Try.prog 73 [.imm (.int .i64 x)] { res := [.imm (.bool (timeOk x))] } := by
  refine callOk_of tyOk Try.func73 rfl rfl (le_of_ble rfl) (le_of_ble rfl) (mutOk_imm rfl _) ?_
  repeat' first | refine go_seq ?_ | refine go_region ?_ | ((first | refine go_op rfl ?_ | refine go_nil ?_ | refine go_call [] (c68 x 0 1799) rfl rfl rfl rfl ?_) <;> conv => whnf) | ((first | refine ⟨by kernel_rfl, ?_⟩ | refine go_ret ?_) <;> conv => whnf) | ((first | refine go_skip ?_) <;> conv => whnf) | refine ⟨rfl, ?_⟩ | ((first | refine ⟨trivial, ?_⟩ | refine ⟨le_of_ble rfl, ?_⟩) <;> conv => whnf) | fail
  all_goals exact ret_imm rfl rfl rfl rfl rfl rfl
theorem c35 (x : Int) : CallOk Try.prog 35 [.imm (.int .i64 x)] { res := [.imm (.bool (timeOk x))] } := by
  refine callOk_of tyOk Try.func35 rfl rfl (le_of_ble rfl) (le_of_ble rfl) (mutOk_imm rfl _) ?_
  repeat' first | refine go_seq ?_ | refine go_region ?_ | ((first | refine go_op rfl ?_ | refine go_nil ?_ | refine go_call [] (c34 x 0 1799) rfl rfl rfl rfl ?_) <;> conv => whnf) | ((first | refine ⟨by kernel_rfl, ?_⟩ | refine go_ret ?_) <;> conv => whnf) | ((first | refine go_skip ?_) <;> conv => whnf) | refine ⟨rfl, ?_⟩ | ((first | refine ⟨trivial, ?_⟩ | refine ⟨le_of_ble rfl, ?_⟩) <;> conv => whnf) | fail
  all_goals exact ret_imm rfl rfl rfl rfl rfl rfl

theorem c72 (n : Network) (s : Int) : CallOk Try.prog 72 [.imm (.agg n.enc), .imm (.int .i64 s)] { res := [.imm (.bool (inR s 0 ((n.lines.length : Int) - 1)))] } := by
  refine callOk_of tyOk Try.func72 rfl rfl (le_of_ble rfl) (le_of_ble rfl) (mutOk_imm rfl _) ?_
  have hll : ((n.lines.map Line.enc).length : Int) = n.lines.length := by rw [List.length_map]
  repeat' first | refine go_seq ?_ | refine go_region ?_ | refine go_miss rfl rfl rfl ?_ | refine go_undef rfl rfl rfl ?_ | ((first | refine go_op rfl ?_ | refine go_nil ?_ | refine go_hit rfl rfl rfl ?_ | refine go_splitT rfl rfl rfl (fun h => ?_) (fun h => ?_) | refine go_splitF rfl rfl rfl (fun h => ?_) (fun h => ?_) | refine go_pickT rfl ?_ | refine go_pickF rfl ?_ | refine go_pick rfl (fun h => ?_) (fun h => ?_)) <;> conv => whnf) | ((first | refine go_loadB ?_ | refine ⟨by kernel_rfl, ?_⟩ | refine go_ret ?_) <;> conv => whnf) | ((first | refine go_skip ?_) <;> conv => whnf) | refine ⟨rfl, ?_⟩ | ((first | refine ⟨trivial, ?_⟩ | refine ⟨le_of_ble rfl, ?_⟩) <;> conv => whnf) | fail
  all_goals
    refine ret_imm rfl rfl rfl rfl ?_ rfl
    first
      | (have h' := of_decide_eq_true h; show D.bool (decide (s < ((n.lines.map Line.enc).length : Int))) = _; rw [hll]; simp only [inR, D.bool.injEq]; rw [Bool.eq_iff_iff]; simp; omega)
      | (have h' := of_decide_eq_false h; simp only [inR, D.bool.injEq]; rw [decide_eq_false (by omega)]; rfl)

/-- The sum of a list, from left to right. -/
def totW (xs : List Int) : Int := xs.foldl (fun a v => IntKind.i64.wrap (a + v)) 0
theorem tot_take {xs : List Int} {i : Nat} {v : Int} (h : xs[i]? = some v) : totW (xs.take (i + 1)) = IntKind.i64.wrap (totW (xs.take i) + v) := by
  unfold totW
  rw [List.take_add_one, h]
  simp [List.foldl_append]
theorem tot_all {xs : List Int} {i : Nat} (h : xs.length ≤ i) : totW (xs.take i) = totW xs := by rw [List.take_of_length_le h]

theorem c95 (xs : List Int) (hl : xs.length ≤ 1048576) : CallOk Try.prog 95 [.imm (.list (xs.map intRow))] { res := [.imm (.int .i64 (totW xs))] } := by
  refine callOk_of tyOk Try.func95 rfl rfl (le_of_ble rfl) (le_of_ble rfl) (mutOk_imm rfl _) ?_
  repeat' first | refine go_seq ?_ | refine go_region ?_ | ((first | refine go_op rfl ?_ | refine go_nil ?_) <;> conv => whnf) | ((first | refine go_loadB ?_ | refine ⟨by kernel_rfl, ?_⟩ | refine go_ret ?_) <;> conv => whnf) | refine go_block ?_ | ((first | refine go_skip ?_ | refine go_exit ?_) <;> conv => whnf) | refine go_true rfl ?_ | refine go_false rfl ?_ | refine go_cond rfl (fun h => ?_) (fun h => ?_) | refine ⟨rfl, ?_⟩ | ((first | refine ⟨trivial, ?_⟩ | refine ⟨le_of_ble rfl, ?_⟩) <;> conv => whnf) | fail
  refine go_loop (α := Nat) (fun i => i ≤ xs.length) (fun i => xs.length - i)
    (fun i => st Try.f95.ntmps [(3, .imm (.int .i64 (totW (xs.take i)))), (6, .imm (.list (xs.map intRow))), (7, .imm (.int .i64 (xs.map intRow).length)), (8, .imm (.int .i64 (i : Nat)))] [] []) 0 (Nat.zero_le _)
    (ref_st0 rfl ⟨rfl, rfl, rfl, rfl, trivial⟩ rfl) ?_
  intro i hi
  cases hx : xs[i]? with
  | none =>
    have hge := le_of_at hx
    repeat' first | refine go_seq ?_ | refine go_region ?_ | ((first | refine go_op rfl ?_ | refine go_nil ?_) <;> conv => whnf) | ((first | refine go_loadB ?_ | refine ⟨by kernel_rfl, ?_⟩ | refine go_ret ?_) <;> conv => whnf) | refine go_block ?_ | ((first | refine go_skip ?_ | refine go_exit ?_) <;> conv => whnf) | refine go_true rfl ?_ | refine go_false rfl ?_ | refine go_cond rfl (fun h => ?_) (fun h => ?_) | refine ⟨rfl, ?_⟩ | ((first | refine ⟨trivial, ?_⟩ | refine ⟨le_of_ble rfl, ?_⟩) <;> conv => whnf) | fail
    all_goals first
      | (exfalso; simp at h; omega)
      | exact ret_imm rfl rfl rfl rfl (by rw [tot_all hge]) rfl
  | some v =>
    have hlt := lt_of_at hx
    have hr := row_at intRow hx
    repeat' first | refine go_seq ?_ | refine go_region ?_ | ((first | refine go_op rfl ?_ | refine go_nil ?_ | refine go_idx rfl rfl rfl rfl (by omega) hr rfl ?_) <;> conv => whnf) | ((first | refine go_loadB ?_ | refine ⟨by kernel_rfl, ?_⟩ | refine go_ret ?_) <;> conv => whnf) | refine go_block ?_ | ((first | refine go_skip ?_ | refine go_exit ?_) <;> conv => whnf) | refine go_true rfl ?_ | refine go_false rfl ?_ | refine go_cond rfl (fun h => ?_) (fun h => ?_) | refine ⟨rfl, ?_⟩ | ((first | refine ⟨trivial, ?_⟩ | refine ⟨le_of_ble rfl, ?_⟩) <;> conv => whnf) | fail
    all_goals first
      | (exfalso; simp at h; omega)
      | exact go_next (i + 1) (by omega) (by omega) (ref_st0 rfl ⟨by rw [tot_take hx]; rfl, rfl, rfl, next_i (by omega), trivial⟩ rfl)

theorem c87 (l : Line) (k : Nat) (hk : k ≤ l.runs.length) (hl : l.runs.length ≤ 1048576) : CallOk Try.prog 87 [.imm (.agg l.enc), .imm (.int .i64 0), .imm (.int .i64 (k : Nat))] { res := [.imm (.int .i64 (totW (l.runs.take k)))] } := by
  refine callOk_of tyOk Try.func87 rfl rfl (le_of_ble rfl) (le_of_ble rfl) (mutOk_imm rfl _) ?_
  repeat' first | refine go_seq ?_ | refine go_region ?_ | ((first | refine go_op rfl ?_ | refine go_nil ?_) <;> conv => whnf) | ((first | refine go_loadB ?_ | refine ⟨by kernel_rfl, ?_⟩ | refine go_ret ?_) <;> conv => whnf) | refine go_block ?_ | ((first | refine go_skip ?_ | refine go_exit ?_) <;> conv => whnf) | refine go_true rfl ?_ | refine go_false rfl ?_ | refine go_cond rfl (fun h => ?_) (fun h => ?_) | refine ⟨rfl, ?_⟩ | ((first | refine ⟨trivial, ?_⟩ | refine ⟨le_of_ble rfl, ?_⟩) <;> conv => whnf) | fail
  refine go_loop (α := Nat) (fun i => i ≤ k) (fun i => k - i)
    (fun i => st Try.f87.ntmps [(2, .imm (.int .i64 (k : Nat))), (3, .box 1000 0), (7, .imm (.int .i64 (totW (l.runs.take i)))), (8, .imm (.int .i64 (i : Nat)))] [(1000, .box 90 (l.enc.map .imm))] []) 0 (Nat.zero_le _)
    (ref_st (fun _ => nid 1 3) rfl ⟨rfl, ⟨rfl, rfl⟩, rfl, rfl, trivial⟩ ⟨⟨rfl, wavs_imm _⟩, trivial⟩ (by simp) rfl (by simp)) ?_
  intro i hi
  by_cases hik : i < k
  · obtain ⟨v, hx⟩ : ∃ v, l.runs[i]? = some v := ⟨_, List.getElem?_eq_getElem (by omega)⟩
    have hr := row_at intRow hx
    repeat' first | refine go_seq ?_ | refine go_region ?_ | ((first | refine go_op rfl ?_ | refine go_nil ?_ | refine go_idx rfl rfl rfl rfl (by omega) hr rfl ?_) <;> conv => whnf) | ((first | refine go_loadB ?_ | refine ⟨by kernel_rfl, ?_⟩ | refine go_ret ?_) <;> conv => whnf) | refine go_block ?_ | ((first | refine go_skip ?_ | refine go_exit ?_) <;> conv => whnf) | refine go_true rfl ?_ | refine go_false rfl ?_ | refine go_cond rfl (fun h => ?_) (fun h => ?_) | refine ⟨rfl, ?_⟩ | ((first | refine ⟨trivial, ?_⟩ | refine ⟨le_of_ble rfl, ?_⟩) <;> conv => whnf) | fail
    all_goals first
      | (exfalso; simp at h; omega)
      | exact go_next (i + 1) (by omega) (by omega) (ref_st id rfl ⟨rfl, ⟨rfl, rfl⟩, by rw [tot_take hx]; rfl, next_i (by omega), trivial⟩ ⟨⟨rfl, wavs_imm _⟩, trivial⟩ (by simp) rfl (by simp))
  · have hie : i = k := by omega
    subst hie
    repeat' first | refine go_seq ?_ | refine go_region ?_ | ((first | refine go_op rfl ?_ | refine go_nil ?_) <;> conv => whnf) | ((first | refine go_loadB ?_ | refine ⟨by kernel_rfl, ?_⟩ | refine go_ret ?_) <;> conv => whnf) | refine go_block ?_ | ((first | refine go_skip ?_ | refine go_exit ?_) <;> conv => whnf) | refine go_true rfl ?_ | refine go_false rfl ?_ | refine go_cond rfl (fun h => ?_) (fun h => ?_) | refine ⟨rfl, ?_⟩ | ((first | refine ⟨trivial, ?_⟩ | refine ⟨le_of_ble rfl, ?_⟩) <;> conv => whnf) | fail
    all_goals first
      | (exfalso; simp at h; done)
      | exact ret_imm rfl rfl rfl rfl rfl rfl

def lineFor (t : Timetable) (x : Trip) : Option Line := t.net.lines[x.line.toNat]?
def endT (t : Timetable) (x : Trip) : Int := match lineFor t x with | some l => IntKind.i64.wrap (x.start + totW l.runs) | none => 0
def prevId (t : Timetable) : Nat → Int
  | 0 => 0
  | j + 1 => match t.trips[j]? with | some y => y.id | none => 0
def lineIn (t : Timetable) (x : Trip) : Bool := inR x.line 0 ((t.net.lines.length : Int) - 1)
def tripAt (t : Timetable) (i : Nat) (x : Trip) : Bool := decide (prevId t i < x.id) && (decide (x.id ≤ 999) && (lineIn t x && (timeOk x.start && timeOk (endT t x))))
def tripsOk (t : Timetable) : Bool := decide (t.trips.length ≤ 12) && allI (tripAt t) t.trips
def ttOk (t : Timetable) : Bool := netOk t.net && tripsOk t

theorem line_at {t : Timetable} {x : Trip} (h : lineIn t x = true) : 0 ≤ x.line ∧ ∃ l, lineFor t x = some l ∧ t.net.lines[x.line.toNat]? = some l ∧ (t.net.lines.map Line.enc)[x.line.toNat]? = some l.enc ∧ endT t x = IntKind.i64.wrap (x.start + totW l.runs) := by
  have := (inR_iff _ _ _).1 h
  obtain ⟨l, hl⟩ : ∃ l, t.net.lines[x.line.toNat]? = some l := ⟨_, List.getElem?_eq_getElem (by omega)⟩
  have hf : lineFor t x = some l := hl
  exact ⟨this.1, l, hf, hl, by rw [List.getElem?_map, hl]; rfl, by unfold endT; rw [hf]⟩

theorem c74 (t : Timetable) (hf : t.fit) (x : Trip) (h : lineIn t x = true) : CallOk Try.prog 74 [.imm (.agg t.enc), .imm (.agg x.enc)] { res := [.imm (.int .i64 (endT t x))] } := by
  refine callOk_of tyOk Try.func74 rfl rfl (le_of_ble rfl) (le_of_ble rfl) (mutOk_imm rfl _) ?_
  obtain ⟨h0, l, h1, h2, h3, h4⟩ := line_at h
  have hlf := hf.1.2.2.2 l (List.mem_of_getElem? h2)
  have hc := c95 l.runs hlf.2.2
  repeat' first | refine go_seq ?_ | refine go_region ?_ | refine go_draw drawsOk ?_ | ((first | refine go_op rfl ?_ | refine go_nil ?_ | refine go_dop rfl ?_ | refine go_dend (by kernel_rfl) ?_ | refine go_call [] (hc) rfl rfl rfl rfl ?_ | refine go_idx rfl rfl rfl rfl h0 h3 rfl ?_) <;> conv => whnf) | ((first | refine go_loadB ?_ | refine ⟨by kernel_rfl, ?_⟩ | refine go_ret ?_) <;> conv => whnf) | ((first | refine go_skip ?_) <;> conv => whnf) | refine ⟨rfl, ?_⟩ | ((first | refine ⟨trivial, ?_⟩ | refine ⟨le_of_ble rfl, ?_⟩) <;> conv => whnf) | fail
  all_goals exact ret_imm rfl rfl rfl rfl (by rw [h4]) rfl

/-- A trip of a timetable and its line. -/
structure OnLine (t : Timetable) (i : Nat) (x : Trip) (l : Line) : Prop where
  tr : t.trips[i]? = some x
  ln : t.net.lines[x.line.toNat]? = some l
  lo : 0 ≤ x.line

theorem c88 {t : Timetable} {i : Nat} {x : Trip} {l : Line} (h : OnLine t i x l) : CallOk Try.prog 88 [.imm (.agg t.enc), .imm (.int .i64 (i : Nat))] { res := [.imm (.agg l.enc)], sep := false } := by
  refine callOk_of tyOk Try.func88 rfl rfl (le_of_ble rfl) (le_of_ble rfl) (mutOk_imm rfl _) ?_
  have h1 := row_at Trip.enc h.tr
  have h2 : (t.net.lines.map Line.enc)[x.line.toNat]? = some l.enc := by rw [List.getElem?_map, h.ln]; rfl
  have h0 := h.lo
  repeat' first | refine go_seq ?_ | refine go_region ?_ | refine go_draw drawsOk ?_ | ((first | refine go_op rfl ?_ | refine go_nil ?_ | refine go_storeBox rfl rfl rfl rfl rfl rfl ?_ | refine go_dop rfl ?_ | refine go_dend (by kernel_rfl) ?_ | refine go_idx rfl rfl rfl rfl (by omega) h1 rfl ?_ | refine go_idx rfl rfl rfl rfl h0 h2 rfl ?_) <;> conv => whnf) | ((first | refine go_loadB ?_ | refine ⟨by kernel_rfl, ?_⟩ | refine go_ret ?_) <;> conv => whnf) | ((first | refine go_skip ?_) <;> conv => whnf) | refine ⟨rfl, ?_⟩ | ((first | refine ⟨trivial, ?_⟩ | refine ⟨le_of_ble rfl, ?_⟩) <;> conv => whnf) | fail
  all_goals exact ret_immN rfl rfl rfl rfl rfl

theorem c65 {t : Timetable} {i : Nat} {x : Trip} {l : Line} (h : OnLine t i x l) : CallOk Try.prog 65 [.imm (.agg t.enc), .imm (.int .i64 (i : Nat))] { res := [.imm (.list (l.stops.map intRow))], sep := false } := by
  refine callOk_of tyOk Try.func65 rfl rfl (le_of_ble rfl) (le_of_ble rfl) (mutOk_imm rfl _) ?_
  repeat' first | refine go_seq ?_ | refine go_region ?_ | ((first | refine go_op rfl ?_ | refine go_nil ?_ | refine go_call [] (c88 h) rfl rfl rfl rfl ?_) <;> conv => whnf) | ((first | refine go_loadB ?_ | refine ⟨by kernel_rfl, ?_⟩ | refine go_ret ?_) <;> conv => whnf) | ((first | refine go_skip ?_) <;> conv => whnf) | refine ⟨rfl, ?_⟩ | ((first | refine ⟨trivial, ?_⟩ | refine ⟨le_of_ble rfl, ?_⟩) <;> conv => whnf) | fail
  all_goals exact ret_immN rfl rfl rfl rfl rfl

theorem c64 {t : Timetable} {i : Nat} {x : Trip} {l : Line} (h : OnLine t i x l) (k : Nat) (hk : k ≤ l.runs.length) (hl : l.runs.length ≤ 1048576) : CallOk Try.prog 64 [.imm (.agg t.enc), .imm (.int .i64 (i : Nat)), .imm (.int .i64 (k : Nat))] { res := [.imm (.int .i64 (IntKind.i64.wrap (x.start + totW (l.runs.take k))))] } := by
  refine callOk_of tyOk Try.func64 rfl rfl (le_of_ble rfl) (le_of_ble rfl) (mutOk_imm rfl _) ?_
  have h1 := row_at Trip.enc h.tr
  repeat' first | refine go_seq ?_ | refine go_region ?_ | refine go_draw drawsOk ?_ | ((first | refine go_op rfl ?_ | refine go_nil ?_ | refine go_dop rfl ?_ | refine go_dend (by kernel_rfl) ?_ | refine go_call [] (c88 h) rfl rfl rfl rfl ?_ | refine go_call [] (c87 l k hk hl) rfl rfl rfl rfl ?_ | refine go_idx rfl rfl rfl rfl (by omega) h1 rfl ?_) <;> conv => whnf) | ((first | refine go_loadB ?_ | refine ⟨by kernel_rfl, ?_⟩ | refine go_ret ?_) <;> conv => whnf) | ((first | refine go_skip ?_) <;> conv => whnf) | refine ⟨rfl, ?_⟩ | ((first | refine ⟨trivial, ?_⟩ | refine ⟨le_of_ble rfl, ?_⟩) <;> conv => whnf) | fail
  all_goals exact ret_imm rfl rfl rfl rfl rfl rfl

theorem c36 {t : Timetable} {i : Nat} {x : Trip} {l : Line} (h : OnLine t i x l) (hr : l.runs.length + 1 = l.stops.length) (hl : l.runs.length ≤ 1048576) : CallOk Try.prog 36 [.imm (.agg t.enc), .imm (.int .i64 (i : Nat))] { res := [.imm (.int .i64 (endT t x))] } := by
  refine callOk_of tyOk Try.func36 rfl rfl (le_of_ble rfl) (le_of_ble rfl) (mutOk_imm rfl _) ?_
  have hw : IntKind.i64.wrap (((l.stops.map intRow).length : Int) - 1) = ((l.runs.length : Nat) : Int) := by rw [List.length_map, wrap_small (by omega) (by omega)]; omega
  have he : endT t x = IntKind.i64.wrap (x.start + totW l.runs) := by unfold endT; rw [show lineFor t x = some l from h.ln]
  have hc : CallOk Try.prog 64 [.imm (.agg t.enc), .imm (.int .i64 (i : Nat)), .imm (.int .i64 (IntKind.i64.wrap (((l.stops.map intRow).length : Int) - 1)))] { res := [.imm (.int .i64 (endT t x))] } := by
    rw [hw, he]
    have := c64 h l.runs.length (Nat.le_refl _) hl
    rwa [List.take_length] at this
  repeat' first | refine go_seq ?_ | refine go_region ?_ | refine go_draw drawsOk ?_ | ((first | refine go_op rfl ?_ | refine go_nil ?_ | refine go_dop rfl ?_ | refine go_dend (by kernel_rfl) ?_ | refine go_call [] (c65 h) rfl rfl rfl rfl ?_ | refine go_call [] (hc) rfl rfl rfl rfl ?_) <;> conv => whnf) | ((first | refine go_loadB ?_ | refine ⟨by kernel_rfl, ?_⟩ | refine go_ret ?_) <;> conv => whnf) | ((first | refine go_skip ?_) <;> conv => whnf) | refine ⟨rfl, ?_⟩ | ((first | refine ⟨trivial, ?_⟩ | refine ⟨le_of_ble rfl, ?_⟩) <;> conv => whnf) | fail
  all_goals exact ret_imm rfl rfl rfl rfl rfl rfl

theorem c45 (t : Timetable) (hf : t.fit) : CallOk Try.prog 45 [.imm (.agg t.enc)] { res := [.imm (.bool (tripsOk t))] } := by
  refine callOk_of tyOk Try.func45 rfl rfl (le_of_ble rfl) (le_of_ble rfl) (mutOk_imm rfl _) ?_
  have htl : ((t.trips.map Trip.enc).length : Int) = t.trips.length := by rw [List.length_map]
  by_cases h12 : t.trips.length ≤ 12
  case neg =>
    have hr : tripsOk t = false := by unfold tripsOk; rw [decide_eq_false h12]; rfl
    repeat' first | refine go_seq ?_ | refine go_region ?_ | refine go_miss rfl rfl rfl ?_ | refine go_undef rfl rfl rfl ?_ | ((first | refine go_op rfl ?_ | refine go_nil ?_ | refine go_hit rfl rfl rfl ?_ | refine go_splitT rfl rfl rfl (fun h => ?_) (fun h => ?_) | refine go_splitF rfl rfl rfl (fun h => ?_) (fun h => ?_) | refine go_storeBox rfl rfl rfl rfl rfl rfl ?_ | refine go_pickT rfl ?_ | refine go_pickF rfl ?_ | refine go_pick rfl (fun h => ?_) (fun h => ?_)) <;> conv => whnf) | ((first | refine go_loadB ?_ | refine ⟨by kernel_rfl, ?_⟩ | refine go_ret ?_) <;> conv => whnf) | refine go_block ?_ | ((first | refine go_skip ?_ | refine go_exit ?_) <;> conv => whnf) | refine go_true rfl ?_ | refine go_false rfl ?_ | refine go_cond rfl (fun h => ?_) (fun h => ?_) | refine ⟨rfl, ?_⟩ | ((first | refine ⟨trivial, ?_⟩ | refine ⟨le_of_ble rfl, ?_⟩) <;> conv => whnf) | fail
    all_goals first
      | exact ret_imm rfl rfl rfl rfl (by rw [hr]) rfl
      | (exfalso; have h' := of_decide_eq_false h; omega)
      | (exfalso; have h' := of_decide_eq_true h; omega)
      | (exfalso; rename_i hq; have h' := of_decide_eq_true hq; omega)
      | (exfalso; rename_i hq; have h' := of_decide_eq_false hq; omega)
      | (exfalso; rename_i hq _; have h' := of_decide_eq_true hq; omega)
      | (exfalso; rename_i hq _; have h' := of_decide_eq_false hq; omega)
  have hr : tripsOk t = allI (tripAt t) t.trips := by unfold tripsOk; rw [decide_eq_true h12, Bool.true_and]
  rw [hr]
  repeat' first | refine go_seq ?_ | refine go_region ?_ | refine go_miss rfl rfl rfl ?_ | refine go_undef rfl rfl rfl ?_ | ((first | refine go_op rfl ?_ | refine go_nil ?_ | refine go_hit rfl rfl rfl ?_ | refine go_splitT rfl rfl rfl (fun h => ?_) (fun h => ?_) | refine go_splitF rfl rfl rfl (fun h => ?_) (fun h => ?_) | refine go_storeBox rfl rfl rfl rfl rfl rfl ?_ | refine go_pickT rfl ?_ | refine go_pickF rfl ?_ | refine go_pick rfl (fun h => ?_) (fun h => ?_)) <;> conv => whnf) | ((first | refine go_loadB ?_ | refine ⟨by kernel_rfl, ?_⟩ | refine go_ret ?_) <;> conv => whnf) | refine go_block ?_ | ((first | refine go_skip ?_ | refine go_exit ?_) <;> conv => whnf) | refine go_true rfl ?_ | refine go_false rfl ?_ | refine go_cond rfl (fun h => ?_) (fun h => ?_) | refine ⟨rfl, ?_⟩ | ((first | refine ⟨trivial, ?_⟩ | refine ⟨le_of_ble rfl, ?_⟩) <;> conv => whnf) | fail
  · exfalso; have h' := of_decide_eq_true h; omega
  refine go_loop (α := Nat) (fun i => i ≤ t.trips.length ∧ upI (tripAt t) t.trips i = true) (fun i => t.trips.length - i)
    (fun i => st Try.f45.ntmps [(1, .box 1000 0), (3, .imm (.int .i64 (prevId t i))), (11, .imm (.list (t.trips.map Trip.enc))), (12, .imm (.int .i64 (t.trips.map Trip.enc).length)), (13, .imm (.int .i64 (i : Nat)))] [(1000, .box 37 (t.enc.map .imm))] []) 0
    ⟨Nat.zero_le _, rfl⟩ (ref_st (fun _ => nid 1 1) rfl ⟨⟨rfl, rfl⟩, rfl, rfl, rfl, rfl, trivial⟩ ⟨⟨rfl, wavs_imm _⟩, trivial⟩ (by simp) rfl (by simp)) ?_
  rintro i ⟨hi, ha⟩
  cases hx : t.trips[i]? with
  | none =>
    have hge := le_of_at hx
    repeat' first | refine go_seq ?_ | refine go_region ?_ | refine go_miss rfl rfl rfl ?_ | refine go_undef rfl rfl rfl ?_ | ((first | refine go_op rfl ?_ | refine go_nil ?_ | refine go_hit rfl rfl rfl ?_ | refine go_splitT rfl rfl rfl (fun h => ?_) (fun h => ?_) | refine go_splitF rfl rfl rfl (fun h => ?_) (fun h => ?_) | refine go_storeBox rfl rfl rfl rfl rfl rfl ?_ | refine go_pickT rfl ?_ | refine go_pickF rfl ?_ | refine go_pick rfl (fun h => ?_) (fun h => ?_)) <;> conv => whnf) | ((first | refine go_loadB ?_ | refine ⟨by kernel_rfl, ?_⟩ | refine go_ret ?_) <;> conv => whnf) | refine go_block ?_ | ((first | refine go_skip ?_ | refine go_exit ?_) <;> conv => whnf) | refine go_true rfl ?_ | refine go_false rfl ?_ | refine go_cond rfl (fun h => ?_) (fun h => ?_) | refine ⟨rfl, ?_⟩ | ((first | refine ⟨trivial, ?_⟩ | refine ⟨le_of_ble rfl, ?_⟩) <;> conv => whnf) | fail
    all_goals first
      | (exfalso; have h' := of_decide_eq_false h; omega)
      | (exfalso; have h' := of_decide_eq_true h; omega)
      | (exfalso; rename_i hq; have h' := of_decide_eq_true hq; omega)
      | (exfalso; rename_i hq; have h' := of_decide_eq_false hq; omega)
      | (exfalso; rename_i hq _; have h' := of_decide_eq_true hq; omega)
      | (exfalso; rename_i hq _; have h' := of_decide_eq_false hq; omega)
      | exact ret_imm rfl rfl rfl rfl (by rw [allI_end hge ha]) rfl
  | some x =>
    have hlt := lt_of_at hx
    have hrw := row_at Trip.enc hx
    have hpv : prevId t (i + 1) = x.id := by show (match t.trips[i]? with | some y => y.id | none => 0) = _; rw [hx]
    have hc1 := c72 t.net x.line
    rw [show inR x.line 0 ((t.net.lines.length : Int) - 1) = lineIn t x from rfl] at hc1
    have hc2 := c73 x.start
    have hc3 : True := trivial
    by_cases b0 : prevId t i < x.id
    case neg =>
      repeat' first | refine go_seq ?_ | refine go_region ?_ | refine go_miss rfl rfl rfl ?_ | refine go_undef rfl rfl rfl ?_ | ((first | refine go_op rfl ?_ | refine go_nil ?_ | refine go_hit rfl rfl rfl ?_ | refine go_splitT rfl rfl rfl (fun h => ?_) (fun h => ?_) | refine go_splitF rfl rfl rfl (fun h => ?_) (fun h => ?_) | refine go_storeBox rfl rfl rfl rfl rfl rfl ?_ | refine go_pickT rfl ?_ | refine go_pickF rfl ?_ | refine go_pick rfl (fun h => ?_) (fun h => ?_) | refine go_call [] (hc1) rfl rfl rfl rfl ?_ | refine go_call [] (hc2) rfl rfl rfl rfl ?_ | refine go_idx rfl rfl rfl rfl (by omega) hrw rfl ?_) <;> conv => whnf) | ((first | refine go_loadB ?_ | refine ⟨by kernel_rfl, ?_⟩ | refine go_ret ?_) <;> conv => whnf) | refine go_block ?_ | ((first | refine go_skip ?_ | refine go_exit ?_) <;> conv => whnf) | refine go_true rfl ?_ | refine go_false rfl ?_ | refine go_cond rfl (fun h => ?_) (fun h => ?_) | refine ⟨rfl, ?_⟩ | ((first | refine ⟨trivial, ?_⟩ | refine ⟨le_of_ble rfl, ?_⟩) <;> conv => whnf) | fail
      all_goals first
        | (exfalso; have h' := of_decide_eq_false h; omega)
        | (exfalso; have h' := of_decide_eq_true h; omega)
        | (exfalso; rename_i hq; have h' := of_decide_eq_true hq; omega)
        | (exfalso; rename_i hq; have h' := of_decide_eq_false hq; omega)
        | (exfalso; rename_i hq _; have h' := of_decide_eq_true hq; omega)
        | (exfalso; rename_i hq _; have h' := of_decide_eq_false hq; omega)
        | (refine ret_imm rfl rfl rfl rfl ?_ rfl; rw [show allI (tripAt t) t.trips = false from allI_not hx (by unfold tripAt; simp [b0])]; done)
        | (exfalso; simp only [decide_eq_true_eq, decide_eq_false_iff_not] at *; omega)
        | trace_state
    case pos =>
      by_cases b1 : x.id ≤ 999
      case neg =>
        repeat' first | refine go_seq ?_ | refine go_region ?_ | refine go_miss rfl rfl rfl ?_ | refine go_undef rfl rfl rfl ?_ | ((first | refine go_op rfl ?_ | refine go_nil ?_ | refine go_hit rfl rfl rfl ?_ | refine go_splitT rfl rfl rfl (fun h => ?_) (fun h => ?_) | refine go_splitF rfl rfl rfl (fun h => ?_) (fun h => ?_) | refine go_storeBox rfl rfl rfl rfl rfl rfl ?_ | refine go_pickT rfl ?_ | refine go_pickF rfl ?_ | refine go_pick rfl (fun h => ?_) (fun h => ?_) | refine go_call [] (hc1) rfl rfl rfl rfl ?_ | refine go_call [] (hc2) rfl rfl rfl rfl ?_ | refine go_idx rfl rfl rfl rfl (by omega) hrw rfl ?_) <;> conv => whnf) | ((first | refine go_loadB ?_ | refine ⟨by kernel_rfl, ?_⟩ | refine go_ret ?_) <;> conv => whnf) | refine go_block ?_ | ((first | refine go_skip ?_ | refine go_exit ?_) <;> conv => whnf) | refine go_true rfl ?_ | refine go_false rfl ?_ | refine go_cond rfl (fun h => ?_) (fun h => ?_) | refine ⟨rfl, ?_⟩ | ((first | refine ⟨trivial, ?_⟩ | refine ⟨le_of_ble rfl, ?_⟩) <;> conv => whnf) | fail
        all_goals first
          | (exfalso; have h' := of_decide_eq_false h; omega)
          | (exfalso; have h' := of_decide_eq_true h; omega)
          | (exfalso; rename_i hq; have h' := of_decide_eq_true hq; omega)
          | (exfalso; rename_i hq; have h' := of_decide_eq_false hq; omega)
          | (exfalso; rename_i hq _; have h' := of_decide_eq_true hq; omega)
          | (exfalso; rename_i hq _; have h' := of_decide_eq_false hq; omega)
          | (refine ret_imm rfl rfl rfl rfl ?_ rfl; rw [show allI (tripAt t) t.trips = false from allI_not hx (by unfold tripAt; simp [b0, b1])]; done)
          | (exfalso; simp only [decide_eq_true_eq, decide_eq_false_iff_not] at *; omega)
          | trace_state
      case pos =>
        cases b2 : lineIn t x with
        | false =>
          rw [b2] at hc1
          repeat' first | refine go_seq ?_ | refine go_region ?_ | refine go_miss rfl rfl rfl ?_ | refine go_undef rfl rfl rfl ?_ | ((first | refine go_op rfl ?_ | refine go_nil ?_ | refine go_hit rfl rfl rfl ?_ | refine go_splitT rfl rfl rfl (fun h => ?_) (fun h => ?_) | refine go_splitF rfl rfl rfl (fun h => ?_) (fun h => ?_) | refine go_storeBox rfl rfl rfl rfl rfl rfl ?_ | refine go_pickT rfl ?_ | refine go_pickF rfl ?_ | refine go_pick rfl (fun h => ?_) (fun h => ?_) | refine go_call [] (hc1) rfl rfl rfl rfl ?_ | refine go_call [] (hc2) rfl rfl rfl rfl ?_ | refine go_idx rfl rfl rfl rfl (by omega) hrw rfl ?_) <;> conv => whnf) | ((first | refine go_loadB ?_ | refine ⟨by kernel_rfl, ?_⟩ | refine go_ret ?_) <;> conv => whnf) | refine go_block ?_ | ((first | refine go_skip ?_ | refine go_exit ?_) <;> conv => whnf) | refine go_true rfl ?_ | refine go_false rfl ?_ | refine go_cond rfl (fun h => ?_) (fun h => ?_) | refine ⟨rfl, ?_⟩ | ((first | refine ⟨trivial, ?_⟩ | refine ⟨le_of_ble rfl, ?_⟩) <;> conv => whnf) | fail
          all_goals first
            | (exfalso; have h' := of_decide_eq_false h; omega)
            | (exfalso; have h' := of_decide_eq_true h; omega)
            | (exfalso; rename_i hq; have h' := of_decide_eq_true hq; omega)
            | (exfalso; rename_i hq; have h' := of_decide_eq_false hq; omega)
            | (exfalso; rename_i hq _; have h' := of_decide_eq_true hq; omega)
            | (exfalso; rename_i hq _; have h' := of_decide_eq_false hq; omega)
            | (refine ret_imm rfl rfl rfl rfl ?_ rfl; rw [show allI (tripAt t) t.trips = false from allI_not hx (by unfold tripAt; simp [b0, b1, b2])]; done)
            | (exfalso; simp only [decide_eq_true_eq, decide_eq_false_iff_not] at *; omega)
            | trace_state
        | true =>
          rw [b2] at hc1
          have hce := c74 t hf x b2
          have hc4 := c73 (endT t x)
          cases b3 : timeOk x.start with
          | false =>
            rw [b3] at hc2
            repeat' first | refine go_seq ?_ | refine go_region ?_ | refine go_miss rfl rfl rfl ?_ | refine go_undef rfl rfl rfl ?_ | ((first | refine go_op rfl ?_ | refine go_nil ?_ | refine go_hit rfl rfl rfl ?_ | refine go_splitT rfl rfl rfl (fun h => ?_) (fun h => ?_) | refine go_splitF rfl rfl rfl (fun h => ?_) (fun h => ?_) | refine go_storeBox rfl rfl rfl rfl rfl rfl ?_ | refine go_pickT rfl ?_ | refine go_pickF rfl ?_ | refine go_pick rfl (fun h => ?_) (fun h => ?_) | refine go_call [] (hc1) rfl rfl rfl rfl ?_ | refine go_call [] (hc2) rfl rfl rfl rfl ?_ | refine go_call [] (hce) rfl rfl rfl rfl ?_ | refine go_call [] (hc4) rfl rfl rfl rfl ?_ | refine go_idx rfl rfl rfl rfl (by omega) hrw rfl ?_) <;> conv => whnf) | ((first | refine go_loadB ?_ | refine ⟨by kernel_rfl, ?_⟩ | refine go_ret ?_) <;> conv => whnf) | refine go_block ?_ | ((first | refine go_skip ?_ | refine go_exit ?_) <;> conv => whnf) | refine go_true rfl ?_ | refine go_false rfl ?_ | refine go_cond rfl (fun h => ?_) (fun h => ?_) | refine ⟨rfl, ?_⟩ | ((first | refine ⟨trivial, ?_⟩ | refine ⟨le_of_ble rfl, ?_⟩) <;> conv => whnf) | fail
            all_goals first
              | (exfalso; have h' := of_decide_eq_false h; omega)
              | (exfalso; have h' := of_decide_eq_true h; omega)
              | (exfalso; rename_i hq; have h' := of_decide_eq_true hq; omega)
              | (exfalso; rename_i hq; have h' := of_decide_eq_false hq; omega)
              | (exfalso; rename_i hq _; have h' := of_decide_eq_true hq; omega)
              | (exfalso; rename_i hq _; have h' := of_decide_eq_false hq; omega)
              | (refine ret_imm rfl rfl rfl rfl ?_ rfl; rw [show allI (tripAt t) t.trips = false from allI_not hx (by unfold tripAt; simp [b0, b1, b2, b3])]; done)
              | (exfalso; simp only [decide_eq_true_eq, decide_eq_false_iff_not] at *; omega)
              | trace_state
          | true =>
            rw [b3] at hc2
            cases b4 : timeOk (endT t x) with
            | false =>
              rw [b4] at hc4
              repeat' first | refine go_seq ?_ | refine go_region ?_ | refine go_miss rfl rfl rfl ?_ | refine go_undef rfl rfl rfl ?_ | ((first | refine go_op rfl ?_ | refine go_nil ?_ | refine go_hit rfl rfl rfl ?_ | refine go_splitT rfl rfl rfl (fun h => ?_) (fun h => ?_) | refine go_splitF rfl rfl rfl (fun h => ?_) (fun h => ?_) | refine go_storeBox rfl rfl rfl rfl rfl rfl ?_ | refine go_pickT rfl ?_ | refine go_pickF rfl ?_ | refine go_pick rfl (fun h => ?_) (fun h => ?_) | refine go_call [] (hc1) rfl rfl rfl rfl ?_ | refine go_call [] (hc2) rfl rfl rfl rfl ?_ | refine go_call [] (hce) rfl rfl rfl rfl ?_ | refine go_call [] (hc4) rfl rfl rfl rfl ?_ | refine go_idx rfl rfl rfl rfl (by omega) hrw rfl ?_) <;> conv => whnf) | ((first | refine go_loadB ?_ | refine ⟨by kernel_rfl, ?_⟩ | refine go_ret ?_) <;> conv => whnf) | refine go_block ?_ | ((first | refine go_skip ?_ | refine go_exit ?_) <;> conv => whnf) | refine go_true rfl ?_ | refine go_false rfl ?_ | refine go_cond rfl (fun h => ?_) (fun h => ?_) | refine ⟨rfl, ?_⟩ | ((first | refine ⟨trivial, ?_⟩ | refine ⟨le_of_ble rfl, ?_⟩) <;> conv => whnf) | fail
              all_goals first
                | (exfalso; have h' := of_decide_eq_false h; omega)
                | (exfalso; have h' := of_decide_eq_true h; omega)
                | (exfalso; rename_i hq; have h' := of_decide_eq_true hq; omega)
                | (exfalso; rename_i hq; have h' := of_decide_eq_false hq; omega)
                | (exfalso; rename_i hq _; have h' := of_decide_eq_true hq; omega)
                | (exfalso; rename_i hq _; have h' := of_decide_eq_false hq; omega)
                | (refine ret_imm rfl rfl rfl rfl ?_ rfl; rw [show allI (tripAt t) t.trips = false from allI_not hx (by unfold tripAt; simp [b0, b1, b2, b3, b4])]; done)
                | (exfalso; simp only [decide_eq_true_eq, decide_eq_false_iff_not] at *; omega)
                | trace_state
            | true =>
              rw [b4] at hc4
              repeat' first | refine go_seq ?_ | refine go_region ?_ | refine go_miss rfl rfl rfl ?_ | refine go_undef rfl rfl rfl ?_ | ((first | refine go_op rfl ?_ | refine go_nil ?_ | refine go_hit rfl rfl rfl ?_ | refine go_splitT rfl rfl rfl (fun h => ?_) (fun h => ?_) | refine go_splitF rfl rfl rfl (fun h => ?_) (fun h => ?_) | refine go_storeBox rfl rfl rfl rfl rfl rfl ?_ | refine go_pickT rfl ?_ | refine go_pickF rfl ?_ | refine go_pick rfl (fun h => ?_) (fun h => ?_) | refine go_call [] (hc1) rfl rfl rfl rfl ?_ | refine go_call [] (hc2) rfl rfl rfl rfl ?_ | refine go_call [] (hce) rfl rfl rfl rfl ?_ | refine go_call [] (hc4) rfl rfl rfl rfl ?_ | refine go_idx rfl rfl rfl rfl (by omega) hrw rfl ?_) <;> conv => whnf) | ((first | refine go_loadB ?_ | refine ⟨by kernel_rfl, ?_⟩ | refine go_ret ?_) <;> conv => whnf) | refine go_block ?_ | ((first | refine go_skip ?_ | refine go_exit ?_) <;> conv => whnf) | refine go_true rfl ?_ | refine go_false rfl ?_ | refine go_cond rfl (fun h => ?_) (fun h => ?_) | refine ⟨rfl, ?_⟩ | ((first | refine ⟨trivial, ?_⟩ | refine ⟨le_of_ble rfl, ?_⟩) <;> conv => whnf) | fail
              all_goals first
                | (exfalso; have h' := of_decide_eq_false h; omega)
                | (exfalso; have h' := of_decide_eq_true h; omega)
                | (exfalso; rename_i hq; have h' := of_decide_eq_true hq; omega)
                | (exfalso; rename_i hq; have h' := of_decide_eq_false hq; omega)
                | (exfalso; rename_i hq _; have h' := of_decide_eq_true hq; omega)
                | (exfalso; rename_i hq _; have h' := of_decide_eq_false hq; omega)
                | (refine go_next (i + 1) ⟨by omega, upI_next hx ha (by unfold tripAt; simp [b0, b1, b2, b3, b4])⟩ (by omega) (ref_st id rfl ⟨⟨rfl, rfl⟩, by rw [hpv]; rfl, rfl, rfl, next_i (by omega), trivial⟩ ⟨⟨rfl, wavs_imm _⟩, trivial⟩ (by simp) rfl (by simp)))
                | (exfalso; simp only [decide_eq_true_eq, decide_eq_false_iff_not] at *; omega)
                | trace_state

theorem c22 (t : Timetable) (hf : t.fit) : CallOk Try.prog 22 [.imm (.agg t.enc)] { res := [.imm (.bool (ttOk t))] } := by
  refine callOk_of tyOk Try.func22 rfl rfl (le_of_ble rfl) (le_of_ble rfl) (mutOk_imm rfl _) ?_
  have h1 := c44 t.net hf.1
  have h2 := c45 t hf
  unfold ttOk
  cases hb : netOk t.net <;> rw [hb] at h1 <;>
  (
  repeat' first | refine go_seq ?_ | refine go_region ?_ | refine go_miss rfl rfl rfl ?_ | refine go_undef rfl rfl rfl ?_ | ((first | refine go_op rfl ?_ | refine go_nil ?_ | refine go_hit rfl rfl rfl ?_ | refine go_splitT rfl rfl rfl (fun h => ?_) (fun h => ?_) | refine go_splitF rfl rfl rfl (fun h => ?_) (fun h => ?_) | refine go_pickT rfl ?_ | refine go_pickF rfl ?_ | refine go_pick rfl (fun h => ?_) (fun h => ?_) | refine go_call [] (h1) rfl rfl rfl rfl ?_ | refine go_call [] (h2) rfl rfl rfl rfl ?_) <;> conv => whnf) | ((first | refine go_loadB ?_ | refine ⟨by kernel_rfl, ?_⟩ | refine go_ret ?_) <;> conv => whnf) | ((first | refine go_skip ?_) <;> conv => whnf) | refine ⟨rfl, ?_⟩ | ((first | refine ⟨trivial, ?_⟩ | refine ⟨le_of_ble rfl, ?_⟩) <;> conv => whnf) | fail
  all_goals exact ret_imm rfl rfl rfl rfl rfl rfl
  )

/-- What the reference asks of a trip. -/
def tripAtS (t : Timetable) (i : Nat) (x : Trip) : Bool := inR x.id 1 999 && (lineIn t x && (timeOk x.start && (timeOk (endT t x) && (decide (i = 0) || decide (prevId t i < x.id)))))
theorem trips_eq (t : Timetable) : allI (tripAt t) t.trips = allI (tripAtS t) t.trips := by
  rw [Bool.eq_iff_iff, allI_iff, allI_iff]
  constructor
  · intro h
    have hpos : ∀ j, 0 ≤ prevId t j := by
      intro j
      induction j with
      | zero => exact Int.le_refl _
      | succ j ih =>
        show 0 ≤ (match t.trips[j]? with | some y => y.id | none => 0)
        cases hy : t.trips[j]? with
        | none => exact Int.le_refl _
        | some y =>
          have := h j y hy
          unfold tripAt at this
          simp only [Bool.and_eq_true, decide_eq_true_eq] at this
          show 0 ≤ y.id
          omega
    intro j v hv
    have h1 := h j v hv
    have h2 := hpos j
    unfold tripAt at h1
    unfold tripAtS inR
    simp only [Bool.and_eq_true, Bool.or_eq_true, decide_eq_true_eq] at h1 ⊢
    exact ⟨⟨by omega, h1.2.1⟩, h1.2.2.1, h1.2.2.2.1, h1.2.2.2.2, .inr h1.1⟩
  · intro h j v hv
    have h1 := h j v hv
    unfold tripAtS inR at h1
    unfold tripAt
    simp only [Bool.and_eq_true, Bool.or_eq_true, decide_eq_true_eq] at h1 ⊢
    refine ⟨?_, h1.1.2, h1.2.1, h1.2.2.1, h1.2.2.2.1⟩
    rcases h1.2.2.2.2 with e | e
    · subst e
      have := h1.1.1
      show (0 : Int) < v.id
      omega
    · exact e

theorem line_ok {n : Network} (h : netOk n = true) {l : Line} (hl : l ∈ n.lines) : lineOk n.stops.length l = true := by
  unfold netOk at h
  simp only [Bool.and_eq_true] at h
  exact List.all_eq_true.1 h.2 l hl
theorem line_runs {k : Nat} {l : Line} (h : lineOk k l = true) : l.runs.length + 1 = l.stops.length ∧ 2 ≤ l.stops.length ∧ l.stops.length ≤ 6 := by
  unfold lineOk inR at h
  simp only [Bool.and_eq_true, decide_eq_true_eq] at h
  omega

theorem c17 (t : Timetable) (hf : t.fit) : CallOk Try.prog 17 [.imm (.agg t.enc)] { res := [.imm (.bool (ttOk t))] } := by
  refine callOk_of tyOk Try.func17 rfl rfl (le_of_ble rfl) (le_of_ble rfl) (mutOk_imm rfl _) ?_
  have htl : ((t.trips.map Trip.enc).length : Int) = t.trips.length := by rw [List.length_map]
  have hg := c33 t.net hf.1
  cases hn : netOk t.net with
  | false =>
    have hr : ttOk t = false := by unfold ttOk; rw [hn]; rfl
    rw [hn] at hg
    repeat' first | refine go_seq ?_ | refine go_region ?_ | refine go_miss rfl rfl rfl ?_ | refine go_undef rfl rfl rfl ?_ | refine go_draw drawsOk ?_ | ((first | refine go_op rfl ?_ | refine go_nil ?_ | refine go_hit rfl rfl rfl ?_ | refine go_splitT rfl rfl rfl (fun h => ?_) (fun h => ?_) | refine go_splitF rfl rfl rfl (fun h => ?_) (fun h => ?_) | refine go_storeBox rfl rfl rfl rfl rfl rfl ?_ | refine go_dop rfl ?_ | refine go_dhit rfl rfl ?_ | refine go_dmiss rfl rfl ?_ | refine go_dundef rfl rfl ?_ | refine go_dend (by kernel_rfl) ?_ | refine go_pickT rfl ?_ | refine go_pickF rfl ?_ | refine go_pick rfl (fun h => ?_) (fun h => ?_) | refine go_call [] (hg) rfl rfl rfl rfl ?_) <;> conv => whnf) | ((first | refine go_dsplit2 rfl (fun h => ?_) (fun h => ?_) | refine go_loadB ?_ | refine ⟨by kernel_rfl, ?_⟩ | refine go_ret ?_) <;> conv => whnf) | refine go_block ?_ | ((first | refine go_skip ?_ | refine go_exit ?_) <;> conv => whnf) | refine go_true rfl ?_ | refine go_false rfl ?_ | refine go_cond rfl (fun h => ?_) (fun h => ?_) | refine ⟨rfl, ?_⟩ | ((first | refine ⟨trivial, ?_⟩ | refine ⟨le_of_ble rfl, ?_⟩) <;> conv => whnf) | fail
    all_goals exact ret_imm rfl rfl rfl rfl (by rw [hr]) rfl
  | true =>
  rw [hn] at hg
  by_cases h12 : t.trips.length ≤ 12
  case neg =>
    have hr : ttOk t = false := by unfold ttOk tripsOk; rw [decide_eq_false h12, Bool.false_and, Bool.and_false]
    repeat' first | refine go_seq ?_ | refine go_region ?_ | refine go_miss rfl rfl rfl ?_ | refine go_undef rfl rfl rfl ?_ | refine go_draw drawsOk ?_ | ((first | refine go_op rfl ?_ | refine go_nil ?_ | refine go_hit rfl rfl rfl ?_ | refine go_splitT rfl rfl rfl (fun h => ?_) (fun h => ?_) | refine go_splitF rfl rfl rfl (fun h => ?_) (fun h => ?_) | refine go_storeBox rfl rfl rfl rfl rfl rfl ?_ | refine go_dop rfl ?_ | refine go_dhit rfl rfl ?_ | refine go_dmiss rfl rfl ?_ | refine go_dundef rfl rfl ?_ | refine go_dend (by kernel_rfl) ?_ | refine go_pickT rfl ?_ | refine go_pickF rfl ?_ | refine go_pick rfl (fun h => ?_) (fun h => ?_) | refine go_call [] (hg) rfl rfl rfl rfl ?_) <;> conv => whnf) | ((first | refine go_dsplit2 rfl (fun h => ?_) (fun h => ?_) | refine go_loadB ?_ | refine ⟨by kernel_rfl, ?_⟩ | refine go_ret ?_) <;> conv => whnf) | refine go_block ?_ | ((first | refine go_skip ?_ | refine go_exit ?_) <;> conv => whnf) | refine go_true rfl ?_ | refine go_false rfl ?_ | refine go_cond rfl (fun h => ?_) (fun h => ?_) | refine ⟨rfl, ?_⟩ | ((first | refine ⟨trivial, ?_⟩ | refine ⟨le_of_ble rfl, ?_⟩) <;> conv => whnf) | fail
    all_goals first
      | exact ret_imm rfl rfl rfl rfl (by rw [hr]) rfl
      | (exfalso; have h' := of_decide_eq_false h; omega)
      | (exfalso; have h' := of_decide_eq_true h; omega)
      | (exfalso; rename_i hq; have h' := of_decide_eq_true hq; omega)
      | (exfalso; rename_i hq; have h' := of_decide_eq_false hq; omega)
      | (exfalso; rename_i hq _; have h' := of_decide_eq_true hq; omega)
      | (exfalso; rename_i hq _; have h' := of_decide_eq_false hq; omega)
  have hr : ttOk t = allI (tripAtS t) t.trips := by unfold ttOk tripsOk; rw [hn, decide_eq_true h12, Bool.true_and, Bool.true_and, trips_eq]
  rw [hr]
  repeat' first | refine go_seq ?_ | refine go_region ?_ | refine go_miss rfl rfl rfl ?_ | refine go_undef rfl rfl rfl ?_ | refine go_draw drawsOk ?_ | ((first | refine go_op rfl ?_ | refine go_nil ?_ | refine go_hit rfl rfl rfl ?_ | refine go_splitT rfl rfl rfl (fun h => ?_) (fun h => ?_) | refine go_splitF rfl rfl rfl (fun h => ?_) (fun h => ?_) | refine go_storeBox rfl rfl rfl rfl rfl rfl ?_ | refine go_dop rfl ?_ | refine go_dhit rfl rfl ?_ | refine go_dmiss rfl rfl ?_ | refine go_dundef rfl rfl ?_ | refine go_dend (by kernel_rfl) ?_ | refine go_pickT rfl ?_ | refine go_pickF rfl ?_ | refine go_pick rfl (fun h => ?_) (fun h => ?_) | refine go_call [] (hg) rfl rfl rfl rfl ?_) <;> conv => whnf) | ((first | refine go_dsplit2 rfl (fun h => ?_) (fun h => ?_) | refine go_loadB ?_ | refine ⟨by kernel_rfl, ?_⟩ | refine go_ret ?_) <;> conv => whnf) | refine go_block ?_ | ((first | refine go_skip ?_ | refine go_exit ?_) <;> conv => whnf) | refine go_true rfl ?_ | refine go_false rfl ?_ | refine go_cond rfl (fun h => ?_) (fun h => ?_) | refine ⟨rfl, ?_⟩ | ((first | refine ⟨trivial, ?_⟩ | refine ⟨le_of_ble rfl, ?_⟩) <;> conv => whnf) | fail
  · exfalso; have h' := of_decide_eq_true h; omega
  refine go_loop (α := Nat) (fun i => i ≤ t.trips.length ∧ upI (tripAtS t) t.trips i = true) (fun i => t.trips.length - i)
    (fun i => st Try.f17.ntmps [(1, .box 1000 0), (3, .imm (.int .i64 (i : Nat)))] [(1000, .box 37 (t.enc.map .imm))] []) 0
    ⟨Nat.zero_le _, rfl⟩ (ref_st (fun _ => nid 1 1) rfl ⟨⟨rfl, rfl⟩, rfl, trivial⟩ ⟨⟨rfl, wavs_imm _⟩, trivial⟩ (by simp) rfl (by simp)) ?_
  rintro i ⟨hi, ha⟩
  cases hx : t.trips[i]? with
  | none =>
    have hge := le_of_at hx
    repeat' first | refine go_seq ?_ | refine go_region ?_ | refine go_miss rfl rfl rfl ?_ | refine go_undef rfl rfl rfl ?_ | refine go_draw drawsOk ?_ | ((first | refine go_op rfl ?_ | refine go_nil ?_ | refine go_hit rfl rfl rfl ?_ | refine go_splitT rfl rfl rfl (fun h => ?_) (fun h => ?_) | refine go_splitF rfl rfl rfl (fun h => ?_) (fun h => ?_) | refine go_storeBox rfl rfl rfl rfl rfl rfl ?_ | refine go_dop rfl ?_ | refine go_dhit rfl rfl ?_ | refine go_dmiss rfl rfl ?_ | refine go_dundef rfl rfl ?_ | refine go_dend (by kernel_rfl) ?_ | refine go_pickT rfl ?_ | refine go_pickF rfl ?_ | refine go_pick rfl (fun h => ?_) (fun h => ?_)) <;> conv => whnf) | ((first | refine go_dsplit2 rfl (fun h => ?_) (fun h => ?_) | refine go_loadB ?_ | refine ⟨by kernel_rfl, ?_⟩ | refine go_ret ?_) <;> conv => whnf) | refine go_block ?_ | ((first | refine go_skip ?_ | refine go_exit ?_) <;> conv => whnf) | refine go_true rfl ?_ | refine go_false rfl ?_ | refine go_cond rfl (fun h => ?_) (fun h => ?_) | refine ⟨rfl, ?_⟩ | ((first | refine ⟨trivial, ?_⟩ | refine ⟨le_of_ble rfl, ?_⟩) <;> conv => whnf) | fail
    all_goals first
      | (exfalso; have h' := of_decide_eq_false h; omega)
      | (exfalso; have h' := of_decide_eq_true h; omega)
      | (exfalso; rename_i hq; have h' := of_decide_eq_true hq; omega)
      | (exfalso; rename_i hq; have h' := of_decide_eq_false hq; omega)
      | (exfalso; rename_i hq _; have h' := of_decide_eq_true hq; omega)
      | (exfalso; rename_i hq _; have h' := of_decide_eq_false hq; omega)
      | exact ret_imm rfl rfl rfl rfl (by rw [allI_end hge ha]) rfl
  | some x =>
    have hlt := lt_of_at hx
    have hrw := row_at Trip.enc hx
    have hnl : ((t.net.lines.map Line.enc).length : Int) = t.net.lines.length := by rw [List.length_map]
    have hlb := hf.1.2.2.1
    have hwl : IntKind.i64.wrap (((t.net.lines.map Line.enc).length : Int) - 1) = (t.net.lines.length : Int) - 1 := by rw [hnl]; exact wrap_small (by omega) (by omega)
    have hc0 := c34 x.id 1 999
    have hc1 := c34 x.line 0 (IntKind.i64.wrap (((t.net.lines.map Line.enc).length : Int) - 1))
    rw [show inR x.line 0 (IntKind.i64.wrap (((t.net.lines.map Line.enc).length : Int) - 1)) = lineIn t x by rw [hwl]; rfl] at hc1
    have hc2 := c35 x.start
    have hprev : ∀ y, i ≠ 0 → t.trips[i - 1]? = some y → prevId t i = y.id := by
      intro y h0 hy
      obtain ⟨j, rfl⟩ : ∃ j, i = j + 1 := ⟨i - 1, by omega⟩
      show (match t.trips[j]? with | some y => y.id | none => 0) = _
      rw [show t.trips[j]? = some y from hy]
    cases b0 : inR x.id 1 999 with
    | false =>
      rw [b0] at hc0
      repeat' first | refine go_seq ?_ | refine go_region ?_ | refine go_miss rfl rfl rfl ?_ | refine go_undef rfl rfl rfl ?_ | refine go_draw drawsOk ?_ | ((first | refine go_op rfl ?_ | refine go_nil ?_ | refine go_hit rfl rfl rfl ?_ | refine go_splitT rfl rfl rfl (fun h => ?_) (fun h => ?_) | refine go_splitF rfl rfl rfl (fun h => ?_) (fun h => ?_) | refine go_storeBox rfl rfl rfl rfl rfl rfl ?_ | refine go_dop rfl ?_ | refine go_dhit rfl rfl ?_ | refine go_dmiss rfl rfl ?_ | refine go_dundef rfl rfl ?_ | refine go_dend (by kernel_rfl) ?_ | refine go_pickT rfl ?_ | refine go_pickF rfl ?_ | refine go_pick rfl (fun h => ?_) (fun h => ?_) | refine go_call [] (hc0) rfl rfl rfl rfl ?_ | refine go_call [] (hc1) rfl rfl rfl rfl ?_ | refine go_call [] (hc2) rfl rfl rfl rfl ?_ | refine go_idx rfl rfl rfl rfl (by omega) hrw rfl ?_) <;> conv => whnf) | ((first | refine go_dsplit2 rfl (fun h => ?_) (fun h => ?_) | refine go_loadB ?_ | refine ⟨by kernel_rfl, ?_⟩ | refine go_ret ?_) <;> conv => whnf) | refine go_block ?_ | ((first | refine go_skip ?_ | refine go_exit ?_) <;> conv => whnf) | refine go_true rfl ?_ | refine go_false rfl ?_ | refine go_cond rfl (fun h => ?_) (fun h => ?_) | refine ⟨rfl, ?_⟩ | ((first | refine ⟨trivial, ?_⟩ | refine ⟨le_of_ble rfl, ?_⟩) <;> conv => whnf) | fail
      all_goals first
        | (exfalso; have h' := of_decide_eq_false h; omega)
        | (exfalso; have h' := of_decide_eq_true h; omega)
        | (exfalso; rename_i hq; have h' := of_decide_eq_true hq; omega)
        | (exfalso; rename_i hq; have h' := of_decide_eq_false hq; omega)
        | (exfalso; rename_i hq _; have h' := of_decide_eq_true hq; omega)
        | (exfalso; rename_i hq _; have h' := of_decide_eq_false hq; omega)
        | (refine ret_imm rfl rfl rfl rfl ?_ rfl; rw [show allI (tripAtS t) t.trips = false from allI_not hx (by unfold tripAtS; simp [b0])]; done)
        | (exfalso; simp only [decide_eq_true_eq, decide_eq_false_iff_not] at *; omega)
        | trace_state
    | true =>
      rw [b0] at hc0
      cases b1 : lineIn t x with
      | false =>
        rw [b1] at hc1
        repeat' first | refine go_seq ?_ | refine go_region ?_ | refine go_miss rfl rfl rfl ?_ | refine go_undef rfl rfl rfl ?_ | refine go_draw drawsOk ?_ | ((first | refine go_op rfl ?_ | refine go_nil ?_ | refine go_hit rfl rfl rfl ?_ | refine go_splitT rfl rfl rfl (fun h => ?_) (fun h => ?_) | refine go_splitF rfl rfl rfl (fun h => ?_) (fun h => ?_) | refine go_storeBox rfl rfl rfl rfl rfl rfl ?_ | refine go_dop rfl ?_ | refine go_dhit rfl rfl ?_ | refine go_dmiss rfl rfl ?_ | refine go_dundef rfl rfl ?_ | refine go_dend (by kernel_rfl) ?_ | refine go_pickT rfl ?_ | refine go_pickF rfl ?_ | refine go_pick rfl (fun h => ?_) (fun h => ?_) | refine go_call [] (hc0) rfl rfl rfl rfl ?_ | refine go_call [] (hc1) rfl rfl rfl rfl ?_ | refine go_call [] (hc2) rfl rfl rfl rfl ?_ | refine go_idx rfl rfl rfl rfl (by omega) hrw rfl ?_) <;> conv => whnf) | ((first | refine go_dsplit2 rfl (fun h => ?_) (fun h => ?_) | refine go_loadB ?_ | refine ⟨by kernel_rfl, ?_⟩ | refine go_ret ?_) <;> conv => whnf) | refine go_block ?_ | ((first | refine go_skip ?_ | refine go_exit ?_) <;> conv => whnf) | refine go_true rfl ?_ | refine go_false rfl ?_ | refine go_cond rfl (fun h => ?_) (fun h => ?_) | refine ⟨rfl, ?_⟩ | ((first | refine ⟨trivial, ?_⟩ | refine ⟨le_of_ble rfl, ?_⟩) <;> conv => whnf) | fail
        all_goals first
          | (exfalso; have h' := of_decide_eq_false h; omega)
          | (exfalso; have h' := of_decide_eq_true h; omega)
          | (exfalso; rename_i hq; have h' := of_decide_eq_true hq; omega)
          | (exfalso; rename_i hq; have h' := of_decide_eq_false hq; omega)
          | (exfalso; rename_i hq _; have h' := of_decide_eq_true hq; omega)
          | (exfalso; rename_i hq _; have h' := of_decide_eq_false hq; omega)
          | (refine ret_imm rfl rfl rfl rfl ?_ rfl; rw [show allI (tripAtS t) t.trips = false from allI_not hx (by unfold tripAtS; simp [b0, b1])]; done)
          | (exfalso; simp only [decide_eq_true_eq, decide_eq_false_iff_not] at *; omega)
          | trace_state
      | true =>
        rw [b1] at hc1
        obtain ⟨l0, l, _, l2, _, _⟩ := line_at b1
        have hlr := line_runs (line_ok hn (List.mem_of_getElem? l2))
        have hce := c36 (t := t) (i := i) (x := x) (l := l) ⟨hx, l2, l0⟩ hlr.1 (by omega)
        have hc4 := c35 (endT t x)
        cases b2 : timeOk x.start with
        | false =>
          rw [b2] at hc2
          repeat' first | refine go_seq ?_ | refine go_region ?_ | refine go_miss rfl rfl rfl ?_ | refine go_undef rfl rfl rfl ?_ | refine go_draw drawsOk ?_ | ((first | refine go_op rfl ?_ | refine go_nil ?_ | refine go_hit rfl rfl rfl ?_ | refine go_splitT rfl rfl rfl (fun h => ?_) (fun h => ?_) | refine go_splitF rfl rfl rfl (fun h => ?_) (fun h => ?_) | refine go_storeBox rfl rfl rfl rfl rfl rfl ?_ | refine go_dop rfl ?_ | refine go_dhit rfl rfl ?_ | refine go_dmiss rfl rfl ?_ | refine go_dundef rfl rfl ?_ | refine go_dend (by kernel_rfl) ?_ | refine go_pickT rfl ?_ | refine go_pickF rfl ?_ | refine go_pick rfl (fun h => ?_) (fun h => ?_) | refine go_call [] (hc0) rfl rfl rfl rfl ?_ | refine go_call [] (hc1) rfl rfl rfl rfl ?_ | refine go_call [] (hc2) rfl rfl rfl rfl ?_ | refine go_call [] (hce) rfl rfl rfl rfl ?_ | refine go_call [] (hc4) rfl rfl rfl rfl ?_ | refine go_idx rfl rfl rfl rfl (by omega) hrw rfl ?_) <;> conv => whnf) | ((first | refine go_dsplit2 rfl (fun h => ?_) (fun h => ?_) | refine go_loadB ?_ | refine ⟨by kernel_rfl, ?_⟩ | refine go_ret ?_) <;> conv => whnf) | refine go_block ?_ | ((first | refine go_skip ?_ | refine go_exit ?_) <;> conv => whnf) | refine go_true rfl ?_ | refine go_false rfl ?_ | refine go_cond rfl (fun h => ?_) (fun h => ?_) | refine ⟨rfl, ?_⟩ | ((first | refine ⟨trivial, ?_⟩ | refine ⟨le_of_ble rfl, ?_⟩) <;> conv => whnf) | fail
          all_goals first
            | (exfalso; have h' := of_decide_eq_false h; omega)
            | (exfalso; have h' := of_decide_eq_true h; omega)
            | (exfalso; rename_i hq; have h' := of_decide_eq_true hq; omega)
            | (exfalso; rename_i hq; have h' := of_decide_eq_false hq; omega)
            | (exfalso; rename_i hq _; have h' := of_decide_eq_true hq; omega)
            | (exfalso; rename_i hq _; have h' := of_decide_eq_false hq; omega)
            | (refine ret_imm rfl rfl rfl rfl ?_ rfl; rw [show allI (tripAtS t) t.trips = false from allI_not hx (by unfold tripAtS; simp [b0, b1, b2])]; done)
            | (exfalso; simp only [decide_eq_true_eq, decide_eq_false_iff_not] at *; omega)
            | trace_state
        | true =>
          rw [b2] at hc2
          cases b3 : timeOk (endT t x) with
          | false =>
            rw [b3] at hc4
            repeat' first | refine go_seq ?_ | refine go_region ?_ | refine go_miss rfl rfl rfl ?_ | refine go_undef rfl rfl rfl ?_ | refine go_draw drawsOk ?_ | ((first | refine go_op rfl ?_ | refine go_nil ?_ | refine go_hit rfl rfl rfl ?_ | refine go_splitT rfl rfl rfl (fun h => ?_) (fun h => ?_) | refine go_splitF rfl rfl rfl (fun h => ?_) (fun h => ?_) | refine go_storeBox rfl rfl rfl rfl rfl rfl ?_ | refine go_dop rfl ?_ | refine go_dhit rfl rfl ?_ | refine go_dmiss rfl rfl ?_ | refine go_dundef rfl rfl ?_ | refine go_dend (by kernel_rfl) ?_ | refine go_pickT rfl ?_ | refine go_pickF rfl ?_ | refine go_pick rfl (fun h => ?_) (fun h => ?_) | refine go_call [] (hc0) rfl rfl rfl rfl ?_ | refine go_call [] (hc1) rfl rfl rfl rfl ?_ | refine go_call [] (hc2) rfl rfl rfl rfl ?_ | refine go_call [] (hce) rfl rfl rfl rfl ?_ | refine go_call [] (hc4) rfl rfl rfl rfl ?_ | refine go_idx rfl rfl rfl rfl (by omega) hrw rfl ?_) <;> conv => whnf) | ((first | refine go_dsplit2 rfl (fun h => ?_) (fun h => ?_) | refine go_loadB ?_ | refine ⟨by kernel_rfl, ?_⟩ | refine go_ret ?_) <;> conv => whnf) | refine go_block ?_ | ((first | refine go_skip ?_ | refine go_exit ?_) <;> conv => whnf) | refine go_true rfl ?_ | refine go_false rfl ?_ | refine go_cond rfl (fun h => ?_) (fun h => ?_) | refine ⟨rfl, ?_⟩ | ((first | refine ⟨trivial, ?_⟩ | refine ⟨le_of_ble rfl, ?_⟩) <;> conv => whnf) | fail
            all_goals first
              | (exfalso; have h' := of_decide_eq_false h; omega)
              | (exfalso; have h' := of_decide_eq_true h; omega)
              | (exfalso; rename_i hq; have h' := of_decide_eq_true hq; omega)
              | (exfalso; rename_i hq; have h' := of_decide_eq_false hq; omega)
              | (exfalso; rename_i hq _; have h' := of_decide_eq_true hq; omega)
              | (exfalso; rename_i hq _; have h' := of_decide_eq_false hq; omega)
              | (refine ret_imm rfl rfl rfl rfl ?_ rfl; rw [show allI (tripAtS t) t.trips = false from allI_not hx (by unfold tripAtS; simp [b0, b1, b2, b3])]; done)
              | (exfalso; simp only [decide_eq_true_eq, decide_eq_false_iff_not] at *; omega)
              | trace_state
          | true =>
            rw [b3] at hc4
            by_cases hi0 : i = 0
            case pos =>
              repeat' first | refine go_seq ?_ | refine go_region ?_ | refine go_miss rfl rfl rfl ?_ | refine go_undef rfl rfl rfl ?_ | refine go_draw drawsOk ?_ | ((first | refine go_op rfl ?_ | refine go_nil ?_ | refine go_hit rfl rfl rfl ?_ | refine go_splitT rfl rfl rfl (fun h => ?_) (fun h => ?_) | refine go_splitF rfl rfl rfl (fun h => ?_) (fun h => ?_) | refine go_storeBox rfl rfl rfl rfl rfl rfl ?_ | refine go_dop rfl ?_ | refine go_dhit rfl rfl ?_ | refine go_dmiss rfl rfl ?_ | refine go_dundef rfl rfl ?_ | refine go_dend (by kernel_rfl) ?_ | refine go_pickT rfl ?_ | refine go_pickF rfl ?_ | refine go_pick rfl (fun h => ?_) (fun h => ?_) | refine go_call [] (hc0) rfl rfl rfl rfl ?_ | refine go_call [] (hc1) rfl rfl rfl rfl ?_ | refine go_call [] (hc2) rfl rfl rfl rfl ?_ | refine go_call [] (hce) rfl rfl rfl rfl ?_ | refine go_call [] (hc4) rfl rfl rfl rfl ?_ | refine go_idx rfl rfl rfl rfl (by omega) hrw rfl ?_) <;> conv => whnf) | ((first | refine go_dsplit2 rfl (fun h => ?_) (fun h => ?_) | refine go_loadB ?_ | refine ⟨by kernel_rfl, ?_⟩ | refine go_ret ?_) <;> conv => whnf) | refine go_block ?_ | ((first | refine go_skip ?_ | refine go_exit ?_) <;> conv => whnf) | refine go_true rfl ?_ | refine go_false rfl ?_ | refine go_cond rfl (fun h => ?_) (fun h => ?_) | refine ⟨rfl, ?_⟩ | ((first | refine ⟨trivial, ?_⟩ | refine ⟨le_of_ble rfl, ?_⟩) <;> conv => whnf) | fail
              all_goals first
                | (exfalso; have h' := of_decide_eq_false h; omega)
                | (exfalso; have h' := of_decide_eq_true h; omega)
                | (exfalso; rename_i hq; have h' := of_decide_eq_true hq; omega)
                | (exfalso; rename_i hq; have h' := of_decide_eq_false hq; omega)
                | (exfalso; rename_i hq _; have h' := of_decide_eq_true hq; omega)
                | (exfalso; rename_i hq _; have h' := of_decide_eq_false hq; omega)
                | (refine go_next (i + 1) ⟨by omega, upI_next hx ha (by unfold tripAtS; simp [b0, b1, b2, b3, hi0])⟩ (by omega) (ref_st id rfl ⟨⟨rfl, rfl⟩, next_i (by omega), trivial⟩ ⟨⟨rfl, wavs_imm _⟩, trivial⟩ (by simp) rfl (by simp)))
                | (exfalso; simp only [decide_eq_true_eq, decide_eq_false_iff_not] at *; omega)
                | trace_state
            case neg =>
              obtain ⟨y, hy⟩ : ∃ y, t.trips[i - 1]? = some y := ⟨_, List.getElem?_eq_getElem (by omega)⟩
              have hpy := hprev y hi0 hy
              have hw1 : IntKind.i64.wrap (((i : Nat) : Int) - 1) = ((i - 1 : Nat) : Int) := by rw [wrap_small (by omega) (by omega)]; omega
              have hry : (t.trips.map Trip.enc)[(IntKind.i64.wrap (((i : Nat) : Int) - 1)).toNat]? = some y.enc := by rw [hw1, Int.toNat_natCast, List.getElem?_map, hy]; rfl
              have hw0 : 0 ≤ IntKind.i64.wrap (((i : Nat) : Int) - 1) := by rw [hw1]; omega
              by_cases hlt2 : prevId t i < x.id
              case pos =>
                repeat' first | refine go_seq ?_ | refine go_region ?_ | refine go_miss rfl rfl rfl ?_ | refine go_undef rfl rfl rfl ?_ | refine go_draw drawsOk ?_ | ((first | refine go_op rfl ?_ | refine go_nil ?_ | refine go_hit rfl rfl rfl ?_ | refine go_splitT rfl rfl rfl (fun h => ?_) (fun h => ?_) | refine go_splitF rfl rfl rfl (fun h => ?_) (fun h => ?_) | refine go_storeBox rfl rfl rfl rfl rfl rfl ?_ | refine go_dop rfl ?_ | refine go_dhit rfl rfl ?_ | refine go_dmiss rfl rfl ?_ | refine go_dundef rfl rfl ?_ | refine go_dend (by kernel_rfl) ?_ | refine go_pickT rfl ?_ | refine go_pickF rfl ?_ | refine go_pick rfl (fun h => ?_) (fun h => ?_) | refine go_call [] (hc0) rfl rfl rfl rfl ?_ | refine go_call [] (hc1) rfl rfl rfl rfl ?_ | refine go_call [] (hc2) rfl rfl rfl rfl ?_ | refine go_call [] (hce) rfl rfl rfl rfl ?_ | refine go_call [] (hc4) rfl rfl rfl rfl ?_ | refine go_idx rfl rfl rfl rfl (by omega) hrw rfl ?_ | refine go_idx rfl rfl rfl rfl hw0 hry rfl ?_) <;> conv => whnf) | ((first | refine go_dsplit2 rfl (fun h => ?_) (fun h => ?_) | refine go_loadB ?_ | refine ⟨by kernel_rfl, ?_⟩ | refine go_ret ?_) <;> conv => whnf) | refine go_block ?_ | ((first | refine go_skip ?_ | refine go_exit ?_) <;> conv => whnf) | refine go_true rfl ?_ | refine go_false rfl ?_ | refine go_cond rfl (fun h => ?_) (fun h => ?_) | refine ⟨rfl, ?_⟩ | ((first | refine ⟨trivial, ?_⟩ | refine ⟨le_of_ble rfl, ?_⟩) <;> conv => whnf) | fail
                all_goals first
                  | (exfalso; have h' := of_decide_eq_false h; omega)
                  | (exfalso; have h' := of_decide_eq_true h; omega)
                  | (exfalso; rename_i hq; have h' := of_decide_eq_true hq; omega)
                  | (exfalso; rename_i hq; have h' := of_decide_eq_false hq; omega)
                  | (exfalso; rename_i hq _; have h' := of_decide_eq_true hq; omega)
                  | (exfalso; rename_i hq _; have h' := of_decide_eq_false hq; omega)
                  | (refine go_next (i + 1) ⟨by omega, upI_next hx ha (by unfold tripAtS; simp [b0, b1, b2, b3, hi0, hlt2])⟩ (by omega) (ref_st id rfl ⟨⟨rfl, rfl⟩, next_i (by omega), trivial⟩ ⟨⟨rfl, wavs_imm _⟩, trivial⟩ (by simp) rfl (by simp)))
                  | (exfalso; simp only [decide_eq_true_eq, decide_eq_false_iff_not] at *; omega)
                  | trace_state
              case neg =>
                repeat' first | refine go_seq ?_ | refine go_region ?_ | refine go_miss rfl rfl rfl ?_ | refine go_undef rfl rfl rfl ?_ | refine go_draw drawsOk ?_ | ((first | refine go_op rfl ?_ | refine go_nil ?_ | refine go_hit rfl rfl rfl ?_ | refine go_splitT rfl rfl rfl (fun h => ?_) (fun h => ?_) | refine go_splitF rfl rfl rfl (fun h => ?_) (fun h => ?_) | refine go_storeBox rfl rfl rfl rfl rfl rfl ?_ | refine go_dop rfl ?_ | refine go_dhit rfl rfl ?_ | refine go_dmiss rfl rfl ?_ | refine go_dundef rfl rfl ?_ | refine go_dend (by kernel_rfl) ?_ | refine go_pickT rfl ?_ | refine go_pickF rfl ?_ | refine go_pick rfl (fun h => ?_) (fun h => ?_) | refine go_call [] (hc0) rfl rfl rfl rfl ?_ | refine go_call [] (hc1) rfl rfl rfl rfl ?_ | refine go_call [] (hc2) rfl rfl rfl rfl ?_ | refine go_call [] (hce) rfl rfl rfl rfl ?_ | refine go_call [] (hc4) rfl rfl rfl rfl ?_ | refine go_idx rfl rfl rfl rfl (by omega) hrw rfl ?_ | refine go_idx rfl rfl rfl rfl hw0 hry rfl ?_) <;> conv => whnf) | ((first | refine go_dsplit2 rfl (fun h => ?_) (fun h => ?_) | refine go_loadB ?_ | refine ⟨by kernel_rfl, ?_⟩ | refine go_ret ?_) <;> conv => whnf) | refine go_block ?_ | ((first | refine go_skip ?_ | refine go_exit ?_) <;> conv => whnf) | refine go_true rfl ?_ | refine go_false rfl ?_ | refine go_cond rfl (fun h => ?_) (fun h => ?_) | refine ⟨rfl, ?_⟩ | ((first | refine ⟨trivial, ?_⟩ | refine ⟨le_of_ble rfl, ?_⟩) <;> conv => whnf) | fail
                all_goals first
                  | (exfalso; have h' := of_decide_eq_false h; omega)
                  | (exfalso; have h' := of_decide_eq_true h; omega)
                  | (exfalso; rename_i hq; have h' := of_decide_eq_true hq; omega)
                  | (exfalso; rename_i hq; have h' := of_decide_eq_false hq; omega)
                  | (exfalso; rename_i hq _; have h' := of_decide_eq_true hq; omega)
                  | (exfalso; rename_i hq _; have h' := of_decide_eq_false hq; omega)
                  | (refine ret_imm rfl rfl rfl rfl ?_ rfl; rw [show allI (tripAtS t) t.trips = false from allI_not hx (by unfold tripAtS; simp [b0, b1, b2, b3, hi0, hlt2])]; done)
                  | (exfalso; simp only [decide_eq_true_eq, decide_eq_false_iff_not] at *; omega)
                  | trace_state

end Go.Proofs.Ytfjphbjbobojbaa

