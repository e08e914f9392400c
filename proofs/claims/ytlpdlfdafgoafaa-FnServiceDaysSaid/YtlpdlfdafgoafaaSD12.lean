/- The draws of FnServiceDays: calendars. -/
import Derived.Test.YtlpdlfdafgoafaaSD11
import Derived.Test.YtlpdlfdafgoafaaC3
namespace Go.Proofs.Ytlpdlfdafgoafaa
open Go Go.Am Go.SD
set_option maxRecDepth 100000
set_option maxHeartbeats 8000000
attribute [local irreducible] amOps amC opCall opIndexAddr opPick retQ opMake opStore amDraw opAppend opLoad opNilCmp opIndex opSlice

/-- Where a reader stands. -/
structure Cu where
  k : Nat
  s : Int
def cu (xs : List Int) (c : Cu) : List D := curD xs c.k c.s
def PickP (xs : List Int) (c : Cu) (n : Int) (x : Int × Cu) : Prop := (0 ≤ x.1 ∧ (1 ≤ n → x.1 < n)) ∧ (c.k ≤ x.2.k ∧ x.2.k ≤ c.k + 2) ∧
  CallOk Try.prog 20 [.box 46 (cu xs c), .imm (.int .i64 n)] { res := [.imm (.int .i64 x.1)], muts := [.box 46 ((cu xs x.2).map .imm)], sep := false }
def AmongP (xs : List Int) (c : Cu) (l : List Int) (x : Int × Cu) : Prop := x.1 ∈ l ∧ (c.k ≤ x.2.k ∧ x.2.k ≤ c.k + 2) ∧
  CallOk Try.prog 21 [.box 46 (cu xs c), .imm (.list (l.map intRow))] { res := [.imm (.int .i64 x.1)], muts := [.box 46 ((cu xs x.2).map .imm)], sep := false }
def OneP (xs : List Int) (c : Cu) (n : Int) (x : Bool × Cu) : Prop := (c.k ≤ x.2.k ∧ x.2.k ≤ c.k + 2) ∧
  CallOk Try.prog 19 [.box 46 (cu xs c), .imm (.int .i64 n)] { res := [.imm (.bool x.1)], muts := [.box 46 ((cu xs x.2).map .imm)], sep := false }
open Classical in
noncomputable def pk (xs : List Int) (c : Cu) (n : Int) : Int × Cu := if h : ∃ x, PickP xs c n x then Classical.choose h else (0, c)
open Classical in
noncomputable def am (xs : List Int) (c : Cu) (l : List Int) : Int × Cu := if h : ∃ x, AmongP xs c l x then Classical.choose h else (0, c)
open Classical in
noncomputable def on (xs : List Int) (c : Cu) (n : Int) : Bool × Cu := if h : ∃ x, OneP xs c n x then Classical.choose h else (false, c)
theorem pk_ok {xs : List Int} (hx : areB xs) {c : Cu} (hk : c.k ≤ 999000) (n : Int) : PickP xs c n (pk xs c n) := by
  have h : ∃ x, PickP xs c n x := by
    obtain ⟨v, k', s', h1, h2, h3⟩ := pick_ok xs hx c.k hk c.s n
    exact ⟨(v, ⟨k', s'⟩), h1, h2, h3⟩
  unfold pk
  rw [dif_pos h]
  exact Classical.choose_spec h
theorem am_ok {xs : List Int} (hx : areB xs) {c : Cu} (hk : c.k ≤ 999000) {l : List Int} (hl : 1 ≤ l.length) (hl2 : l.length ≤ 1000) : AmongP xs c l (am xs c l) := by
  have h : ∃ x, AmongP xs c l x := by
    obtain ⟨v, k', s', h1, h2, h3⟩ := among_ok xs hx c.k hk c.s l hl hl2
    exact ⟨(v, ⟨k', s'⟩), h1, h2, h3⟩
  unfold am
  rw [dif_pos h]
  exact Classical.choose_spec h
theorem on_ok {xs : List Int} (hx : areB xs) {c : Cu} (hk : c.k ≤ 999000) (n : Int) : OneP xs c n (on xs c n) := by
  have h : ∃ x, OneP xs c n x := by
    obtain ⟨v, k', s', h1, h2⟩ := one_ok xs hx c.k hk c.s n
    exact ⟨(v, ⟨k', s'⟩), h1, h2⟩
  unfold on
  rw [dif_pos h]
  exact Classical.choose_spec h

/-- Whether a day's weekday is in a set, whatever the set's number. -/
def wdB (wd d : Int) : Bool := decide (bits BinOp.and IntKind.i64 (wd.fdiv (2 ^ min (IntKind.u64.wrap (d.tmod 7)).toNat IntKind.i64.bits)) 1 = 1)
def regG (c : Cal) (d : Int) : Bool := inR d c.fro c.to && wdB c.wd d
def runG (c : Cal) (d : Int) : Bool := has c.added d || (regG c d && !has c.removed d)

theorem l3RegularG (c : Cal) (d : Int) : CallOk Try.prog 30 [.imm (.agg (calE c)), .imm (.int .i64 d)] { res := [.imm (.bool (regG c d))] } := by
  refine callOk_of tyOk Try.func30 rfl rfl (le_of_ble rfl) (le_of_ble rfl) (mutOk_imm rfl _) ?_
  have hc := c27 d c.fro c.to
  unfold regG
  cases hin : inR d c.fro c.to with
  | false =>
    rw [hin] at hc
    repeat' first | refine go_seq ?_ | refine go_region ?_ | refine go_miss rfl rfl rfl ?_ | refine go_undef rfl rfl rfl ?_ | ((first | refine go_op rfl ?_ | refine go_nil ?_ | refine go_hit rfl rfl rfl ?_ | refine go_splitT rfl rfl rfl (fun h => ?_) (fun h => ?_) | refine go_splitF rfl rfl rfl (fun h => ?_) (fun h => ?_) | refine go_pickT rfl ?_ | refine go_pickF rfl ?_ | refine go_pick rfl (fun h => ?_) (fun h => ?_) | refine go_call [] (hc) rfl rfl rfl rfl ?_) <;> conv => whnf) | ((first | refine go_loadB ?_ | refine ⟨by kernel_rfl, ?_⟩ | refine go_ret ?_) <;> conv => whnf) | ((first | refine go_skip ?_) <;> conv => whnf) | refine ⟨rfl, ?_⟩ | ((first | refine ⟨trivial, ?_⟩ | refine ⟨le_of_ble rfl, ?_⟩) <;> conv => whnf) | fail
    all_goals exact ret_imm rfl rfl rfl rfl rfl rfl
  | true =>
    rw [hin] at hc
    repeat' first | refine go_seq ?_ | refine go_region ?_ | refine go_miss rfl rfl rfl ?_ | refine go_undef rfl rfl rfl ?_ | ((first | refine go_op rfl ?_ | refine go_nil ?_ | refine go_hit rfl rfl rfl ?_ | refine go_splitT rfl rfl rfl (fun h => ?_) (fun h => ?_) | refine go_splitF rfl rfl rfl (fun h => ?_) (fun h => ?_) | refine go_pickT rfl ?_ | refine go_pickF rfl ?_ | refine go_pick rfl (fun h => ?_) (fun h => ?_) | refine go_call [] (hc) rfl rfl rfl rfl ?_ | refine ⟨seven_ne, ?_⟩ | refine ⟨(wrap_u64 _).1, ?_⟩) <;> conv => whnf) | ((first | refine go_loadB ?_ | refine ⟨by kernel_rfl, ?_⟩ | refine go_ret ?_) <;> conv => whnf) | ((first | refine go_skip ?_) <;> conv => whnf) | refine ⟨rfl, ?_⟩ | ((first | refine ⟨trivial, ?_⟩ | refine ⟨le_of_ble rfl, ?_⟩) <;> conv => whnf) | fail
    all_goals first
      | exact ret_imm rfl rfl rfl rfl (by rw [Bool.true_and]; rfl) rfl
      | trace_state
theorem l3RunsG (c : Cal) (hf : Cal.fit c) (d : Int) : CallOk Try.prog 18 [.imm (.agg (calE c)), .imm (.int .i64 d)] { res := [.imm (.bool (runG c d))] } := by
  refine callOk_of tyOk Try.func18 rfl rfl (le_of_ble rfl) (le_of_ble rfl) (mutOk_imm rfl _) ?_
  have ha := c29 c.added d hf.1
  have hr := c29 c.removed d hf.2
  have hb := l3RegularG c d
  unfold runG
  cases e1 : regG c d <;> cases e2 : has c.removed d <;> cases e3 : has c.added d
  all_goals
    rw [e1] at hb
    rw [e2] at hr
    rw [e3] at ha
    repeat' first | refine go_seq ?_ | refine go_region ?_ | refine go_miss rfl rfl rfl ?_ | refine go_undef rfl rfl rfl ?_ | ((first | refine go_op rfl ?_ | refine go_nil ?_ | refine go_hit rfl rfl rfl ?_ | refine go_splitT rfl rfl rfl (fun h => ?_) (fun h => ?_) | refine go_splitF rfl rfl rfl (fun h => ?_) (fun h => ?_) | refine go_pickT rfl ?_ | refine go_pickF rfl ?_ | refine go_pick rfl (fun h => ?_) (fun h => ?_) | refine go_call [] (hb) rfl rfl rfl rfl ?_ | refine go_call [] (ha) rfl rfl rfl rfl ?_ | refine go_call [] (hr) rfl rfl rfl rfl ?_) <;> conv => whnf) | ((first | refine go_loadB ?_ | refine ⟨by kernel_rfl, ?_⟩ | refine go_ret ?_) <;> conv => whnf) | ((first | refine go_skip ?_) <;> conv => whnf) | refine go_true rfl ?_ | refine go_false rfl ?_ | refine go_cond rfl (fun h => ?_) (fun h => ?_) | refine ⟨rfl, ?_⟩ | ((first | refine ⟨trivial, ?_⟩ | refine ⟨le_of_ble rfl, ?_⟩) <;> conv => whnf) | fail
    all_goals first
      | exact ret_imm rfl rfl rfl rfl rfl rfl
      | trace_state

def kF : List Int := [0, 3, 100, 3600]
def kT : List Int := [0, 6, 13, 20, 40]
def kW : List Int := [31, 96, 127, 0, 65, 21]
def kE : List Int := [-1, 3650, 3651]
def kV : List Int := [-1, 128]
def kQ : List Int := [200, 201]
theorem in_kF {x : Int} (h : x ∈ kF) : 0 ≤ x ∧ x ≤ 3600 := by
  simp only [kF, List.mem_cons, List.not_mem_nil, or_false] at h
  omega
theorem in_kT {x : Int} (h : x ∈ kT) : 0 ≤ x ∧ x ≤ 40 := by
  simp only [kT, List.mem_cons, List.not_mem_nil, or_false] at h
  omega
theorem in_kW {x : Int} (h : x ∈ kW) : 0 ≤ x ∧ x ≤ 127 := by
  simp only [kW, List.mem_cons, List.not_mem_nil, or_false] at h
  omega
theorem in_kE {x : Int} (h : x ∈ kE) : -1 ≤ x ∧ x ≤ 3651 := by
  simp only [kE, List.mem_cons, List.not_mem_nil, or_false] at h
  omega
theorem in_kQ {x : Int} (h : x ∈ kQ) : 200 ≤ x ∧ x ≤ 201 := by
  simp only [kQ, List.mem_cons, List.not_mem_nil, or_false] at h
  omega

/-- A calendar that grows: the reader, and the exceptions so far. -/
structure Cs where
  c : Cu
  ad : List Int
  rm : List Int
noncomputable def calS (xs : List Int) (b : Cal) (d : Int) (z : Cs) : Cs :=
  if (on xs z.c 6).1 then (if regG b d then ⟨(on xs z.c 6).2, z.ad, z.rm ++ [d]⟩ else ⟨(on xs z.c 6).2, z.ad ++ [d], z.rm⟩) else ⟨(on xs z.c 6).2, z.ad, z.rm⟩
noncomputable def calL (xs : List Int) (b : Cal) : Nat → Int → Cs → Cs
  | 0, _, z => z
  | n + 1, d, z => if z.ad.length + z.rm.length < 5 then calL xs b n (d + 1) (calS xs b d z) else z
theorem calS_ok {xs : List Int} (hx : areB xs) (b : Cal) (d : Int) {z : Cs} (hk : z.c.k ≤ 900000) : (z.c.k ≤ (calS xs b d z).c.k ∧ (calS xs b d z).c.k ≤ z.c.k + 2) ∧ (calS xs b d z).ad.length + (calS xs b d z).rm.length ≤ z.ad.length + z.rm.length + 1 := by
  have h := on_ok hx (c := z.c) (by omega) 6
  have h1 := h.1
  unfold calS
  split
  · split
    · simp only [List.length_append, List.length_cons, List.length_nil]; omega
    · simp only [List.length_append, List.length_cons, List.length_nil]; omega
  · simp only; omega
theorem calL_ok {xs : List Int} (hx : areB xs) (b : Cal) : ∀ (n : Nat) (d : Int) (z : Cs), z.c.k + 2 * n ≤ 900000 → z.ad.length + z.rm.length ≤ 5 →
    (z.c.k ≤ (calL xs b n d z).c.k ∧ (calL xs b n d z).c.k ≤ z.c.k + 2 * n) ∧ (calL xs b n d z).ad.length + (calL xs b n d z).rm.length ≤ 5
  | 0, _, z, h, h5 => ⟨⟨Nat.le_refl _, by simp only [calL]; omega⟩, h5⟩
  | n + 1, d, z, h, h5 => by
    rw [calL]
    split
    · obtain ⟨h1, h2⟩ := calS_ok hx b d (z := z) (by omega)
      have := calL_ok hx b n (d + 1) (calS xs b d z) (by omega) (by omega)
      omega
    · omega

/-- The calendar at the end, and the reader. -/
noncomputable def calX (xs : List Int) (b : Cal) (F : Cs) : Cal × Cu :=
  if (pk xs F.c 40).1 = 0 then (⟨b.fro, (am xs (pk xs F.c 40).2 kE).1, b.wd, F.ad, F.rm⟩, (am xs (pk xs F.c 40).2 kE).2)
  else if (pk xs F.c 40).1 = 1 then (⟨b.fro, b.to, (am xs (pk xs F.c 40).2 kV).1, F.ad, F.rm⟩, (am xs (pk xs F.c 40).2 kV).2)
  else if (pk xs F.c 40).1 = 2 then (⟨b.fro, b.to, b.wd, F.ad ++ [b.fro], F.rm⟩, (pk xs F.c 40).2)
  else if (pk xs F.c 40).1 = 3 then (⟨b.fro, b.to, b.wd, F.ad, F.rm ++ [IntKind.i64.wrap (b.to + 1)]⟩, (pk xs F.c 40).2)
  else (⟨b.fro, b.to, b.wd, F.ad, F.rm⟩, (pk xs F.c 40).2)
def calOut (xs : List Int) (x : Cal × Cu) : Out :=
  { res := [.imm (.int .i64 x.1.fro), .imm (.int .i64 x.1.to), .imm (.int .i64 x.1.wd), .imm (.list (x.1.added.map intRow)), .imm (.list (x.1.removed.map intRow))], muts := [.box 46 ((cu xs x.2).map .imm)], sep := false, agg := true }

theorem cal_walk (xs : List Int) (hx : areB xs) (c : Cu) (hk : c.k ≤ 1000) (b : Cal) (hb : b = ⟨(am xs c kF).1, (am xs c kF).1 + (am xs (am xs c kF).2 kT).1, (am xs (am xs (am xs c kF).2 kT).2 kW).1, [], []⟩)
    (F : Cs) (hF : F = calL xs b (span b) b.fro ⟨(am xs (am xs (am xs c kF).2 kT).2 kW).2, [], []⟩) :
    CallOk Try.prog 17 [.box 46 (cu xs c)] (calOut xs (calX xs b F)) := by
  refine callOk_of tyOk Try.func17 rfl rfl (le_of_ble rfl) (le_of_ble rfl) (mutOk_box0 (res := []) (sep := false) rfl) ?_
  obtain ⟨a1, a2, hA⟩ := am_ok hx (c := c) (l := kF) (by omega) (by decide) (by decide)
  obtain ⟨t1, t2, hT⟩ := am_ok hx (c := (am xs c kF).2) (l := kT) (by omega) (by decide) (by decide)
  obtain ⟨w1, w2, hW⟩ := am_ok hx (c := (am xs (am xs c kF).2 kT).2) (l := kW) (by omega) (by decide) (by decide)
  have za := in_kF a1
  have zt := in_kT t1
  have zw := in_kW w1
  have hto : IntKind.i64.wrap ((am xs c kF).1 + (am xs (am xs c kF).2 kT).1) = b.to := by rw [hb]; exact wrap_small (by omega) (by omega)
  have e1 : (am xs c kF).1 = b.fro := by rw [hb]
  have e3 : (am xs (am xs (am xs c kF).2 kT).2 kW).1 = b.wd := by rw [hb]
  have hbf : 0 ≤ b.fro ∧ b.fro ≤ 3600 := by rw [← e1]; exact za
  have hbt : b.fro ≤ b.to ∧ b.to ≤ b.fro + 40 := by rw [hb]; simp only; omega
  have hbw : 0 ≤ b.wd ∧ b.wd ≤ 127 := by rw [← e3]; exact zw
  generalize hcW : (am xs (am xs (am xs c kF).2 kT).2 kW).2 = cW at *
  rw [e1] at hA
  rw [e3] at hW
  have hn : ((span b : Nat) : Int) = b.to + 1 - b.fro := by unfold span; omega
  have hto' : AV.imm (.int .i64 (IntKind.i64.wrap (b.fro + (am xs (am xs c kF).2 kT).1))) = .imm (.int .i64 b.to) := by rw [← e1, hto]
  clear hb
  repeat' first | refine go_seq ?_ | refine go_region ?_ | refine go_miss rfl rfl rfl ?_ | refine go_undef rfl rfl rfl ?_ | ((first | refine go_op rfl ?_ | refine go_nil ?_ | refine go_hit rfl rfl rfl ?_ | refine go_splitT rfl rfl rfl (fun h => ?_) (fun h => ?_) | refine go_splitF rfl rfl rfl (fun h => ?_) (fun h => ?_) | refine go_storeBox rfl rfl rfl rfl rfl rfl ?_ | refine go_pickT rfl ?_ | refine go_pickF rfl ?_ | refine go_pick rfl (fun h => ?_) (fun h => ?_) | refine go_call [2, 1] (hA) rfl rfl rfl rfl ?_ | refine go_call [2, 1] (hT) rfl rfl rfl rfl ?_ | refine go_call [2, 1] (hW) rfl rfl rfl rfl ?_ | refine Or.inr ?_) <;> conv => whnf) | ((first | refine Or.inl ?_ | refine go_loadB ?_ | refine ⟨by kernel_rfl, ?_⟩ | refine go_ret ?_) <;> conv => whnf) | refine go_block ?_ | ((first | refine go_skip ?_ | refine go_exit ?_) <;> conv => whnf) | refine go_true rfl ?_ | refine go_false rfl ?_ | refine go_cond rfl (fun h => ?_) (fun h => ?_) | refine ⟨rfl, ?_⟩ | ((first | refine ⟨trivial, ?_⟩ | refine ⟨le_of_ble rfl, ?_⟩) <;> conv => whnf) | fail
  refine go_loop (α := Nat × Cs) (fun z => z.1 ≤ span b ∧ calL xs b (span b - z.1) (b.fro + (z.1 : Nat)) z.2 = F ∧ z.2.c.k ≤ 2000 + 2 * z.1 ∧ z.2.ad.length + z.2.rm.length ≤ 5) (fun z => span b - z.1)
    (fun z => st Try.f17.ntmps [(0, .box 1001 0), (2, .box 1000 0), (4, .box 1004 0), (5, .imm (.int .i64 (b.fro + (z.1 : Nat))))]
      [(1000, .box 28 ((calE calZ).map .imm)), (1001, .box 46 ((cu xs z.2.c).map .imm)), (1002, .arr 3 1 (z.2.ad.map intRow)), (1003, .arr 3 1 (z.2.rm.map intRow)),
       (1004, .box 28 [.imm (.int .i64 b.fro), .imm (.int .i64 b.to), .imm (.int .i64 b.wd), .own 1002 0 (z.2.ad.map intRow).length, .own 1003 0 (z.2.rm.map intRow).length])] [1001]) (0, ⟨cW, [], []⟩) ⟨Nat.zero_le _, ?_, by show cW.k ≤ 2000 + 0; omega, by show 0 ≤ 5; omega⟩ ?_ ?_
  · rw [hF]
    simp only [Nat.sub_zero, Int.natCast_zero, Int.add_zero]
  · refine Ref.trans (ref_nilBox (b := nid 3 4) (q := 5001) (j := 3) (e := 3) (sz := 1) rfl rfl rfl (by decide)) ?_
    refine Ref.trans (ref_nilBox (b := nid 3 4) (q := 5002) (j := 4) (e := 3) (sz := 1) rfl rfl rfl (by decide)) ?_
    refine ref_st (fun i => if i = 1000 then nid 1 2 else if i = 1001 then 0 else if i = 1002 then 5001 else if i = 1003 then 5002 else nid 3 4) rfl ⟨⟨rfl, rfl⟩, ⟨rfl, rfl⟩, ⟨rfl, rfl⟩, ?_, trivial⟩ ⟨⟨rfl, wavs_imm _⟩, ⟨rfl, wavs_imm _⟩, rfl, rfl, ⟨rfl, rfl, hto', rfl, ⟨rfl, rfl⟩, ⟨rfl, rfl⟩, trivial⟩, trivial⟩ (by simp [nid]) rfl (by simp [lookM])
    show AV.imm (.int .i64 b.fro) = .imm (.int .i64 (b.fro + ((0 : Nat) : Int)))
    rw [Int.natCast_zero, Int.add_zero]
  rintro ⟨j, z⟩ ⟨hj, hL, hzk, hz5⟩
  simp only at hj hL hzk hz5
  clear hA hT hW
  have hsum : IntKind.i64.wrap (((z.ad.map intRow).length : Int) + ((z.rm.map intRow).length : Int)) = ((z.ad.length + z.rm.length : Nat) : Int) := by
    rw [List.length_map, List.length_map, wrap_small (by omega) (by omega)]; omega
  by_cases hstop : j = span b ∨ ¬ z.ad.length + z.rm.length < 5
  · have hz : z = F := by
      rw [← hL]
      rcases Nat.eq_zero_or_pos (span b - j) with h0 | h0
      · rw [h0]; rfl
      · obtain ⟨m, hm⟩ : ∃ m, span b - j = m + 1 := ⟨span b - j - 1, by omega⟩
        rw [hm, calL, if_neg (by omega)]
    subst hz
    obtain ⟨p1, p2, hp⟩ := pk_ok hx (c := z.c) (by omega) 40
    unfold calX
    by_cases c0 : (pk xs z.c 40).1 = 0
    · rw [if_pos c0]
      obtain ⟨_, _, hd⟩ := am_ok hx (c := (pk xs z.c 40).2) (l := kE) (by omega) (by decide) (by decide)
      repeat' first | refine go_seq ?_ | refine go_region ?_ | refine go_miss rfl rfl rfl ?_ | refine go_undef rfl rfl rfl ?_ | ((first | refine go_op rfl ?_ | refine go_nil ?_ | refine go_hit rfl rfl rfl ?_ | refine go_splitT rfl rfl rfl (fun h => ?_) (fun h => ?_) | refine go_splitF rfl rfl rfl (fun h => ?_) (fun h => ?_) | refine go_storeBox rfl rfl rfl rfl rfl rfl ?_ | refine go_pickT rfl ?_ | refine go_pickF rfl ?_ | refine go_pick rfl (fun h => ?_) (fun h => ?_) | refine go_call [2] (hp) rfl rfl rfl rfl ?_ | refine go_call [2, 1] (hd) rfl rfl rfl rfl ?_) <;> conv => whnf) | ((first | refine Or.inl ?_ | refine go_loadB ?_ | refine ⟨by kernel_rfl, ?_⟩ | refine go_ret ?_) <;> conv => whnf) | refine go_block ?_ | ((first | refine go_skip ?_ | refine go_exit ?_) <;> conv => whnf) | refine go_true rfl ?_ | refine go_false rfl ?_ | refine go_cond rfl (fun h => ?_) (fun h => ?_) | refine ⟨rfl, ?_⟩ | ((first | refine ⟨trivial, ?_⟩ | refine ⟨le_of_ble rfl, ?_⟩) <;> conv => whnf) | fail
      all_goals
        first
          | (exfalso; simp only [decide_eq_true_eq, decide_eq_false_iff_not, hsum] at *; omega)
          | (refine ret_agg rfl rfl rfl ⟨⟨rfl, fun h => by cases h⟩, ⟨rfl, fun h => by cases h⟩, ⟨rfl, fun h => by cases h⟩, ⟨?_, (fun h => by cases h), by show _ ∉ [1001]; simp [nid]⟩, ⟨?_, (fun h => by cases h), by show _ ∉ [1001]; simp [nid]⟩, trivial⟩ ?_ (by show [1001].Nodup; simp) ⟨rfl, (fun h => by cases h), trivial⟩
             · show D.list _ = D.list _
               first
                 | (rw [List.drop_zero, List.take_length]; done)
                 | (rw [List.drop_zero, ← List.map_append, List.take_of_length_le (by simp)]; done)
                 | (rw [List.drop_zero, List.take_of_length_le (by simp)]; simp [intRow]; done)
             · show D.list _ = D.list _
               first
                 | (rw [List.drop_zero, List.take_length]; done)
                 | (rw [List.drop_zero, ← List.map_append, List.take_of_length_le (by simp)]; done)
                 | (rw [List.drop_zero, List.take_of_length_le (by simp)]; simp [intRow]; done)
             · exact List.nodup_cons.2 ⟨by simp [ownIds, nid], List.nodup_cons.2 ⟨by simp [ownIds], List.nodup_nil⟩⟩)
          | trace_state
    by_cases c1 : (pk xs z.c 40).1 = 1
    · rw [if_neg c0, if_pos c1]
      obtain ⟨_, _, hd⟩ := am_ok hx (c := (pk xs z.c 40).2) (l := kV) (by omega) (by decide) (by decide)
      repeat' first | refine go_seq ?_ | refine go_region ?_ | refine go_miss rfl rfl rfl ?_ | refine go_undef rfl rfl rfl ?_ | ((first | refine go_op rfl ?_ | refine go_nil ?_ | refine go_hit rfl rfl rfl ?_ | refine go_splitT rfl rfl rfl (fun h => ?_) (fun h => ?_) | refine go_splitF rfl rfl rfl (fun h => ?_) (fun h => ?_) | refine go_storeBox rfl rfl rfl rfl rfl rfl ?_ | refine go_pickT rfl ?_ | refine go_pickF rfl ?_ | refine go_pick rfl (fun h => ?_) (fun h => ?_) | refine go_call [2] (hp) rfl rfl rfl rfl ?_ | refine go_call [2, 1] (hd) rfl rfl rfl rfl ?_) <;> conv => whnf) | ((first | refine Or.inl ?_ | refine go_loadB ?_ | refine ⟨by kernel_rfl, ?_⟩ | refine go_ret ?_) <;> conv => whnf) | refine go_block ?_ | ((first | refine go_skip ?_ | refine go_exit ?_) <;> conv => whnf) | refine go_true rfl ?_ | refine go_false rfl ?_ | refine go_cond rfl (fun h => ?_) (fun h => ?_) | refine ⟨rfl, ?_⟩ | ((first | refine ⟨trivial, ?_⟩ | refine ⟨le_of_ble rfl, ?_⟩) <;> conv => whnf) | fail
      all_goals
        first
          | (exfalso; simp only [decide_eq_true_eq, decide_eq_false_iff_not, hsum] at *; omega)
          | (refine ret_agg rfl rfl rfl ⟨⟨rfl, fun h => by cases h⟩, ⟨rfl, fun h => by cases h⟩, ⟨rfl, fun h => by cases h⟩, ⟨?_, (fun h => by cases h), by show _ ∉ [1001]; simp [nid]⟩, ⟨?_, (fun h => by cases h), by show _ ∉ [1001]; simp [nid]⟩, trivial⟩ ?_ (by show [1001].Nodup; simp) ⟨rfl, (fun h => by cases h), trivial⟩
             · show D.list _ = D.list _
               first
                 | (rw [List.drop_zero, List.take_length]; done)
                 | (rw [List.drop_zero, ← List.map_append, List.take_of_length_le (by simp)]; done)
                 | (rw [List.drop_zero, List.take_of_length_le (by simp)]; simp [intRow]; done)
             · show D.list _ = D.list _
               first
                 | (rw [List.drop_zero, List.take_length]; done)
                 | (rw [List.drop_zero, ← List.map_append, List.take_of_length_le (by simp)]; done)
                 | (rw [List.drop_zero, List.take_of_length_le (by simp)]; simp [intRow]; done)
             · exact List.nodup_cons.2 ⟨by simp [ownIds, nid], List.nodup_cons.2 ⟨by simp [ownIds], List.nodup_nil⟩⟩)
          | trace_state
    by_cases c2 : (pk xs z.c 40).1 = 2
    · rw [if_neg c0, if_neg c1, if_pos c2]
      have hone := int_one [b.fro]
      have hbd : (z.ad.map intRow).length + 1 ≤ 1073741824 := by rw [List.length_map]; omega
      repeat' first | refine go_seq ?_ | refine go_region ?_ | refine go_miss rfl rfl rfl ?_ | refine go_undef rfl rfl rfl ?_ | ((first | refine go_op rfl ?_ | refine go_nil ?_ | refine go_hit rfl rfl rfl ?_ | refine go_splitT rfl rfl rfl (fun h => ?_) (fun h => ?_) | refine go_splitF rfl rfl rfl (fun h => ?_) (fun h => ?_) | refine go_storeBox rfl rfl rfl rfl rfl rfl ?_ | refine go_pickT rfl ?_ | refine go_pickF rfl ?_ | refine go_pick rfl (fun h => ?_) (fun h => ?_) | refine go_call [2] (hp) rfl rfl rfl rfl ?_ | refine go_append (rows2 := [b.fro].map intRow) rfl rfl rfl rfl rfl rfl rfl rfl rfl rfl rfl rfl hone rfl rfl rfl hbd ?_) <;> conv => whnf) | ((first | refine Or.inl ?_ | refine go_loadB ?_ | refine ⟨by kernel_rfl, ?_⟩ | refine go_ret ?_) <;> conv => whnf) | refine go_block ?_ | ((first | refine go_skip ?_ | refine go_exit ?_) <;> conv => whnf) | refine go_true rfl ?_ | refine go_false rfl ?_ | refine go_cond rfl (fun h => ?_) (fun h => ?_) | refine ⟨rfl, ?_⟩ | ((first | refine ⟨trivial, ?_⟩ | refine ⟨le_of_ble rfl, ?_⟩) <;> conv => whnf) | fail
      all_goals
        first
          | (exfalso; simp only [decide_eq_true_eq, decide_eq_false_iff_not, hsum] at *; omega)
          | (refine ret_agg rfl rfl rfl ⟨⟨rfl, fun h => by cases h⟩, ⟨rfl, fun h => by cases h⟩, ⟨rfl, fun h => by cases h⟩, ⟨?_, (fun h => by cases h), by show _ ∉ [1001]; simp [nid]⟩, ⟨?_, (fun h => by cases h), by show _ ∉ [1001]; simp [nid]⟩, trivial⟩ ?_ (by show [1001].Nodup; simp) ⟨rfl, (fun h => by cases h), trivial⟩
             · show D.list _ = D.list _
               first
                 | (rw [List.drop_zero, List.take_length]; done)
                 | (rw [List.drop_zero, ← List.map_append, List.take_of_length_le (by simp)]; done)
                 | (rw [List.drop_zero, List.take_of_length_le (by simp)]; simp [intRow]; done)
             · show D.list _ = D.list _
               first
                 | (rw [List.drop_zero, List.take_length]; done)
                 | (rw [List.drop_zero, ← List.map_append, List.take_of_length_le (by simp)]; done)
                 | (rw [List.drop_zero, List.take_of_length_le (by simp)]; simp [intRow]; done)
             · exact List.nodup_cons.2 ⟨by simp [ownIds, nid], List.nodup_cons.2 ⟨by simp [ownIds], List.nodup_nil⟩⟩)
          | trace_state
    by_cases c3 : (pk xs z.c 40).1 = 3
    · rw [if_neg c0, if_neg c1, if_neg c2, if_pos c3]
      have hone := int_one [IntKind.i64.wrap (b.to + 1)]
      have hbd : (z.rm.map intRow).length + 1 ≤ 1073741824 := by rw [List.length_map]; omega
      repeat' first | refine go_seq ?_ | refine go_region ?_ | refine go_miss rfl rfl rfl ?_ | refine go_undef rfl rfl rfl ?_ | ((first | refine go_op rfl ?_ | refine go_nil ?_ | refine go_hit rfl rfl rfl ?_ | refine go_splitT rfl rfl rfl (fun h => ?_) (fun h => ?_) | refine go_splitF rfl rfl rfl (fun h => ?_) (fun h => ?_) | refine go_storeBox rfl rfl rfl rfl rfl rfl ?_ | refine go_pickT rfl ?_ | refine go_pickF rfl ?_ | refine go_pick rfl (fun h => ?_) (fun h => ?_) | refine go_call [2] (hp) rfl rfl rfl rfl ?_ | refine go_append (rows2 := [IntKind.i64.wrap (b.to + 1)].map intRow) rfl rfl rfl rfl rfl rfl rfl rfl rfl rfl rfl rfl hone rfl rfl rfl hbd ?_) <;> conv => whnf) | ((first | refine Or.inl ?_ | refine go_loadB ?_ | refine ⟨by kernel_rfl, ?_⟩ | refine go_ret ?_) <;> conv => whnf) | refine go_block ?_ | ((first | refine go_skip ?_ | refine go_exit ?_) <;> conv => whnf) | refine go_true rfl ?_ | refine go_false rfl ?_ | refine go_cond rfl (fun h => ?_) (fun h => ?_) | refine ⟨rfl, ?_⟩ | ((first | refine ⟨trivial, ?_⟩ | refine ⟨le_of_ble rfl, ?_⟩) <;> conv => whnf) | fail
      all_goals
        first
          | (exfalso; simp only [decide_eq_true_eq, decide_eq_false_iff_not, hsum] at *; omega)
          | (refine ret_agg rfl rfl rfl ⟨⟨rfl, fun h => by cases h⟩, ⟨rfl, fun h => by cases h⟩, ⟨rfl, fun h => by cases h⟩, ⟨?_, (fun h => by cases h), by show _ ∉ [1001]; simp [nid]⟩, ⟨?_, (fun h => by cases h), by show _ ∉ [1001]; simp [nid]⟩, trivial⟩ ?_ (by show [1001].Nodup; simp) ⟨rfl, (fun h => by cases h), trivial⟩
             · show D.list _ = D.list _
               first
                 | (rw [List.drop_zero, List.take_length]; done)
                 | (rw [List.drop_zero, ← List.map_append, List.take_of_length_le (by simp)]; done)
                 | (rw [List.drop_zero, List.take_of_length_le (by simp)]; simp [intRow]; done)
             · show D.list _ = D.list _
               first
                 | (rw [List.drop_zero, List.take_length]; done)
                 | (rw [List.drop_zero, ← List.map_append, List.take_of_length_le (by simp)]; done)
                 | (rw [List.drop_zero, List.take_of_length_le (by simp)]; simp [intRow]; done)
             · exact List.nodup_cons.2 ⟨by simp [ownIds, nid], List.nodup_cons.2 ⟨by simp [ownIds], List.nodup_nil⟩⟩)
          | trace_state
    rw [if_neg c0, if_neg c1, if_neg c2, if_neg c3]
    repeat' first | refine go_seq ?_ | refine go_region ?_ | refine go_miss rfl rfl rfl ?_ | refine go_undef rfl rfl rfl ?_ | ((first | refine go_op rfl ?_ | refine go_nil ?_ | refine go_hit rfl rfl rfl ?_ | refine go_splitT rfl rfl rfl (fun h => ?_) (fun h => ?_) | refine go_splitF rfl rfl rfl (fun h => ?_) (fun h => ?_) | refine go_storeBox rfl rfl rfl rfl rfl rfl ?_ | refine go_pickT rfl ?_ | refine go_pickF rfl ?_ | refine go_pick rfl (fun h => ?_) (fun h => ?_) | refine go_call [2] (hp) rfl rfl rfl rfl ?_) <;> conv => whnf) | ((first | refine Or.inl ?_ | refine go_loadB ?_ | refine ⟨by kernel_rfl, ?_⟩ | refine go_ret ?_) <;> conv => whnf) | refine go_block ?_ | ((first | refine go_skip ?_ | refine go_exit ?_) <;> conv => whnf) | refine go_true rfl ?_ | refine go_false rfl ?_ | refine go_cond rfl (fun h => ?_) (fun h => ?_) | refine ⟨rfl, ?_⟩ | ((first | refine ⟨trivial, ?_⟩ | refine ⟨le_of_ble rfl, ?_⟩) <;> conv => whnf) | fail
    all_goals
      first
        | (exfalso; simp only [decide_eq_true_eq, decide_eq_false_iff_not, hsum] at *; omega)
        | (refine ret_agg rfl rfl rfl ⟨⟨rfl, fun h => by cases h⟩, ⟨rfl, fun h => by cases h⟩, ⟨rfl, fun h => by cases h⟩, ⟨?_, (fun h => by cases h), by show _ ∉ [1001]; simp [nid]⟩, ⟨?_, (fun h => by cases h), by show _ ∉ [1001]; simp [nid]⟩, trivial⟩ ?_ (by show [1001].Nodup; simp) ⟨rfl, (fun h => by cases h), trivial⟩
           · show D.list _ = D.list _
             first
               | (rw [List.drop_zero, List.take_length]; done)
               | (rw [List.drop_zero, ← List.map_append, List.take_of_length_le (by simp)]; done)
               | (rw [List.drop_zero, List.take_of_length_le (by simp)]; simp [intRow]; done)
           · show D.list _ = D.list _
             first
               | (rw [List.drop_zero, List.take_length]; done)
               | (rw [List.drop_zero, ← List.map_append, List.take_of_length_le (by simp)]; done)
               | (rw [List.drop_zero, List.take_of_length_le (by simp)]; simp [intRow]; done)
           · exact List.nodup_cons.2 ⟨by simp [ownIds, nid], List.nodup_cons.2 ⟨by simp [ownIds], List.nodup_nil⟩⟩)
        | trace_state
  · have hjn : j < span b := by omega
    have h5 : z.ad.length + z.rm.length < 5 := by omega
    have hd1 : AV.imm (.int .i64 (IntKind.i64.wrap (b.fro + (j : Int) + 1))) = .imm (.int .i64 (b.fro + ((j + 1 : Nat) : Int))) := by
      rw [wrap_small (by omega) (by omega)]; congr 2; omega
    have hnx : calL xs b (span b - (j + 1)) (b.fro + ((j + 1 : Nat) : Int)) (calS xs b (b.fro + (j : Int)) z) = F := by
      rw [← hL]
      obtain ⟨m, hm⟩ : ∃ m, span b - j = m + 1 := ⟨span b - j - 1, by omega⟩
      rw [hm, calL, if_pos h5, show span b - (j + 1) = m from by omega]
      congr 1
      omega
    obtain ⟨s1, s2⟩ := calS_ok hx b (b.fro + (j : Int)) (z := z) (by omega)
    obtain ⟨_, ho⟩ := on_ok hx (c := z.c) (by omega) 6
    have hR : CallOk Try.prog 30 [.imm (.agg [.int .i64 b.fro, .int .i64 b.to, .int .i64 b.wd, .list (((z.ad.map intRow).drop 0).take (z.ad.map intRow).length), .list (((z.rm.map intRow).drop 0).take (z.rm.map intRow).length)]), .imm (.int .i64 (b.fro + (j : Int)))] { res := [.imm (.bool (regG b (b.fro + (j : Int))))] } := by
      rw [int_view, int_view]
      exact l3RegularG ⟨b.fro, b.to, b.wd, z.ad, z.rm⟩ (b.fro + (j : Int))
    have hone := int_one [b.fro + (j : Int)]
    have hbA : (z.ad.map intRow).length + 1 ≤ 1073741824 := by rw [List.length_map]; omega
    have hbR : (z.rm.map intRow).length + 1 ≤ 1073741824 := by rw [List.length_map]; omega
    cases e1 : (on xs z.c 6).1 with
    | false =>
      rw [e1] at ho
      have hS : calS xs b (b.fro + (j : Int)) z = ⟨(on xs z.c 6).2, z.ad, z.rm⟩ := by unfold calS; rw [e1]; rfl
      repeat' first | refine go_seq ?_ | refine go_region ?_ | refine go_miss rfl rfl rfl ?_ | refine go_undef rfl rfl rfl ?_ | ((first | refine go_op rfl ?_ | refine go_nil ?_ | refine go_hit rfl rfl rfl ?_ | refine go_splitT rfl rfl rfl (fun h => ?_) (fun h => ?_) | refine go_splitF rfl rfl rfl (fun h => ?_) (fun h => ?_) | refine go_storeBox rfl rfl rfl rfl rfl rfl ?_ | refine go_pickT rfl ?_ | refine go_pickF rfl ?_ | refine go_pick rfl (fun h => ?_) (fun h => ?_) | refine go_call [2] (ho) rfl rfl rfl rfl ?_) <;> conv => whnf) | ((first | refine Or.inl ?_ | refine go_loadB ?_ | refine ⟨by kernel_rfl, ?_⟩ | refine go_ret ?_) <;> conv => whnf) | refine go_block ?_ | ((first | refine go_skip ?_ | refine go_exit ?_) <;> conv => whnf) | refine go_true rfl ?_ | refine go_false rfl ?_ | refine go_cond rfl (fun h => ?_) (fun h => ?_) | refine ⟨rfl, ?_⟩ | ((first | refine ⟨trivial, ?_⟩ | refine ⟨le_of_ble rfl, ?_⟩) <;> conv => whnf) | fail
      all_goals first
        | (exfalso; simp only [decide_eq_true_eq, decide_eq_false_iff_not, hsum] at *; omega)
        | (refine go_next (j + 1, calS xs b (b.fro + (j : Int)) z) ⟨by show j + 1 ≤ _; omega, hnx, by show (calS xs b (b.fro + (j : Int)) z).c.k ≤ 2000 + 2 * (j + 1); omega, Nat.le_trans s2 (by omega)⟩ (by show _ - (j + 1) < _ - j; omega) ?_
           rw [hS]
           exact ref_st id rfl ⟨⟨rfl, rfl⟩, ⟨rfl, rfl⟩, ⟨rfl, rfl⟩, hd1, trivial⟩ ⟨⟨rfl, wavs_imm _⟩, ⟨rfl, wavs_imm _⟩, rfl, rfl, ⟨rfl, rfl, rfl, rfl, ⟨rfl, rfl⟩, ⟨rfl, rfl⟩, trivial⟩, trivial⟩ (by simp) rfl (by simp [lookM]))
        | trace_state
    | true =>
      rw [e1] at ho
      cases e2 : regG b (b.fro + (j : Int)) with
      | true =>
        rw [e2] at hR
        have hS : calS xs b (b.fro + (j : Int)) z = ⟨(on xs z.c 6).2, z.ad, z.rm ++ [b.fro + (j : Int)]⟩ := by unfold calS; rw [e1, e2]; rfl
        repeat' first | refine go_seq ?_ | refine go_region ?_ | refine go_miss rfl rfl rfl ?_ | refine go_undef rfl rfl rfl ?_ | ((first | refine go_op rfl ?_ | refine go_nil ?_ | refine go_hit rfl rfl rfl ?_ | refine go_splitT rfl rfl rfl (fun h => ?_) (fun h => ?_) | refine go_splitF rfl rfl rfl (fun h => ?_) (fun h => ?_) | refine go_storeBox rfl rfl rfl rfl rfl rfl ?_ | refine go_pickT rfl ?_ | refine go_pickF rfl ?_ | refine go_pick rfl (fun h => ?_) (fun h => ?_) | refine go_call [2] (ho) rfl rfl rfl rfl ?_ | refine go_call [] (hR) rfl rfl rfl rfl ?_ | refine go_append (rows2 := [b.fro + (j : Int)].map intRow) rfl rfl rfl rfl rfl rfl rfl rfl rfl rfl rfl rfl hone rfl rfl rfl hbR ?_) <;> conv => whnf) | ((first | refine Or.inl ?_ | refine go_loadB ?_ | refine ⟨by kernel_rfl, ?_⟩ | refine go_ret ?_) <;> conv => whnf) | refine go_block ?_ | ((first | refine go_skip ?_ | refine go_exit ?_) <;> conv => whnf) | refine go_true rfl ?_ | refine go_false rfl ?_ | refine go_cond rfl (fun h => ?_) (fun h => ?_) | refine ⟨rfl, ?_⟩ | ((first | refine ⟨trivial, ?_⟩ | refine ⟨le_of_ble rfl, ?_⟩) <;> conv => whnf) | fail
        all_goals first
          | (exfalso; simp only [decide_eq_true_eq, decide_eq_false_iff_not, hsum] at *; omega)
          | (refine go_next (j + 1, calS xs b (b.fro + (j : Int)) z) ⟨by show j + 1 ≤ _; omega, hnx, by show (calS xs b (b.fro + (j : Int)) z).c.k ≤ 2000 + 2 * (j + 1); omega, Nat.le_trans s2 (by omega)⟩ (by show _ - (j + 1) < _ - j; omega) ?_
             rw [hS]
             refine ref_st (fun i => if i = 1003 then nid 5 47 else i) rfl ⟨⟨rfl, rfl⟩, ⟨rfl, rfl⟩, ⟨rfl, rfl⟩, hd1, trivial⟩ ⟨⟨rfl, wavs_imm _⟩, ⟨rfl, wavs_imm _⟩, rfl, ?_, ⟨rfl, rfl, rfl, rfl, ⟨rfl, rfl⟩, ⟨?_, rfl⟩, trivial⟩, trivial⟩ (by simp [nid]) rfl (by simp [lookM])
             · show some _ = some _
               rw [List.map_append]; try rfl
             · show AV.own _ _ _ = AV.own _ _ _
               rw [List.map_append, List.length_append]; try rfl)
          | trace_state
      | false =>
        rw [e2] at hR
        have hS : calS xs b (b.fro + (j : Int)) z = ⟨(on xs z.c 6).2, z.ad ++ [b.fro + (j : Int)], z.rm⟩ := by unfold calS; rw [e1, e2]; rfl
        repeat' first | refine go_seq ?_ | refine go_region ?_ | refine go_miss rfl rfl rfl ?_ | refine go_undef rfl rfl rfl ?_ | ((first | refine go_op rfl ?_ | refine go_nil ?_ | refine go_hit rfl rfl rfl ?_ | refine go_splitT rfl rfl rfl (fun h => ?_) (fun h => ?_) | refine go_splitF rfl rfl rfl (fun h => ?_) (fun h => ?_) | refine go_storeBox rfl rfl rfl rfl rfl rfl ?_ | refine go_pickT rfl ?_ | refine go_pickF rfl ?_ | refine go_pick rfl (fun h => ?_) (fun h => ?_) | refine go_call [2] (ho) rfl rfl rfl rfl ?_ | refine go_call [] (hR) rfl rfl rfl rfl ?_ | refine go_append (rows2 := [b.fro + (j : Int)].map intRow) rfl rfl rfl rfl rfl rfl rfl rfl rfl rfl rfl rfl hone rfl rfl rfl hbA ?_) <;> conv => whnf) | ((first | refine Or.inl ?_ | refine go_loadB ?_ | refine ⟨by kernel_rfl, ?_⟩ | refine go_ret ?_) <;> conv => whnf) | refine go_block ?_ | ((first | refine go_skip ?_ | refine go_exit ?_) <;> conv => whnf) | refine go_true rfl ?_ | refine go_false rfl ?_ | refine go_cond rfl (fun h => ?_) (fun h => ?_) | refine ⟨rfl, ?_⟩ | ((first | refine ⟨trivial, ?_⟩ | refine ⟨le_of_ble rfl, ?_⟩) <;> conv => whnf) | fail
        all_goals first
          | (exfalso; simp only [decide_eq_true_eq, decide_eq_false_iff_not, hsum] at *; omega)
          | (refine go_next (j + 1, calS xs b (b.fro + (j : Int)) z) ⟨by show j + 1 ≤ _; omega, hnx, by show (calS xs b (b.fro + (j : Int)) z).c.k ≤ 2000 + 2 * (j + 1); omega, Nat.le_trans s2 (by omega)⟩ (by show _ - (j + 1) < _ - j; omega) ?_
             rw [hS]
             refine ref_st (fun i => if i = 1002 then nid 5 53 else i) rfl ⟨⟨rfl, rfl⟩, ⟨rfl, rfl⟩, ⟨rfl, rfl⟩, hd1, trivial⟩ ⟨⟨rfl, wavs_imm _⟩, ⟨rfl, wavs_imm _⟩, ?_, rfl, ⟨rfl, rfl, rfl, rfl, ⟨?_, rfl⟩, ⟨rfl, rfl⟩, trivial⟩, trivial⟩ (by simp [nid]) rfl (by simp [lookM])
             · show some _ = some _
               rw [List.map_append]; try rfl
             · show AV.own _ _ _ = AV.own _ _ _
               rw [List.map_append, List.length_append]; try rfl)
          | trace_state
end Go.Proofs.Ytlpdlfdafgoafaa

