/- A change told in words: program and reference. -/
import Derived.Test.YtcfhmncbfekoaaaGreatDoorDC0
namespace Go.Proofs.YtcfhmncbfekoaaaGreatDoor
open Go Go.Am
set_option maxRecDepth 100000
set_option maxHeartbeats 8000000
attribute [local irreducible] amOps amC opCall opIndexAddr opPick retQ opMake opStore amDraw opAppend opLoad opNilCmp opIndex opSlice

theorem numT_len {n : Nat} (h : n ≤ 999) : (numT n).length ≤ 19 := Lg.num_len 18 n (by omega)
theorem clockL_len (n : Nat) : (clockL n).length = 5 := rfl

theorem dc_sizes (w : List UInt8) (hw : w.length ≤ 8) (id st : Nat) (hid : id ≤ 999) (nm : ByteArray) (hnm : nm.size ≤ 1048576) :
    (ofL w).size + spB.size ≤ 4611686018427387904 ∧ (ofL w ++ spB).size + (ofL (numT id)).size ≤ 4611686018427387904 ∧ (ofL w ++ spB ++ ofL (numT id)).size + spB.size ≤ 4611686018427387904 ∧
    (ofL w ++ spB ++ ofL (numT id) ++ spB).size + nm.size ≤ 4611686018427387904 ∧ (ofL w ++ spB ++ ofL (numT id) ++ spB ++ nm).size + spB.size ≤ 4611686018427387904 ∧
    (ofL w ++ spB ++ ofL (numT id) ++ spB ++ nm ++ spB).size + (ofL (clockL st)).size ≤ 4611686018427387904 := by
  have h1 := numT_len hid
  have h2 := clockL_len st
  have h3 : spB.size = 1 := rfl
  simp only [ByteArray.size_append, ofL_size, h3, h2]
  omega

theorem dc_all (w : List UInt8) (hw : w.length ≤ 8) (id st : Nat) (hid : id ≤ 999) (nm : ByteArray) (hnm : nm.size ≤ 1048576) :
    (ofL w ++ spB ++ ofL (numT id) ++ spB ++ nm ++ spB ++ ofL (clockL st)).size ≤ 1048700 := by
  have h1 := numT_len hid
  have h2 := clockL_len st
  have h3 : spB.size = 1 := rfl
  simp only [ByteArray.size_append, ofL_size, h3, h2]
  omega

theorem c10 (t : Timetable) (hf : t.fit) (c : Change) : CallOk Tryz.prog 10 [.imm (.agg t.enc), .imm (.agg c.enc)] { res := [.imm (.str (dcR t c)), .imm (.bool (ivOk t [c]))] } := by
  refine callOk_of tyOk Tryz.func10 rfl rfl (le_of_ble rfl) (le_of_ble rfl) (mutOk_imm rfl _) ?_
  have h0 : CallOk Tryz.prog 31 [.imm (.agg t.enc), .imm (.list [c.enc])] { res := [.imm (.bool (ivOk t [c]))] } := c31 t hf [c] (by simp)
  unfold dcR
  cases hv : ivOk t [c] with
  | false =>
    rw [hv] at h0
    rw [if_neg (by simp)]
    repeat' first | refine go_seq ?_ | refine go_region ?_ | refine go_draw drawsOk ?_ | ((first | refine go_op rfl ?_ | refine go_nil ?_ | refine go_dop rfl ?_ | refine go_dend (by kernel_rfl) ?_ | refine go_call [] (h0) rfl rfl rfl rfl ?_) <;> conv => whnf) | ((first | refine Or.inl ?_ | refine go_loadB ?_ | refine ⟨by kernel_rfl, ?_⟩ | refine go_ret ?_) <;> conv => whnf) | ((first | refine go_skip ?_) <;> conv => whnf) | refine go_true rfl ?_ | refine go_false rfl ?_ | refine go_cond rfl (fun h => ?_) (fun h => ?_) | refine ⟨rfl, ?_⟩ | ((first | refine ⟨trivial, ?_⟩ | refine ⟨le_of_ble rfl, ?_⟩) <;> conv => whnf) | fail
    all_goals first
      | exact ret_imm2 rfl rfl rfl rfl rfl rfl rfl rfl
      | (exfalso; simp at h; done)
      | trace_state
  | true =>
    have hg := cgood hv
    rw [hv] at h0
    rw [if_pos rfl]
    obtain ⟨l, hlo, hln⟩ := hg.tr.ln
    have hlf := hf.1.2.2.2 l (List.mem_of_getElem? hln)
    have hLn : lnm t c = l.name := by unfold lnm; rw [hln]
    obtain ⟨id, hid⟩ : ∃ id : Nat, c.trip.id = id := ⟨c.trip.id.toNat, by have := hg.tr.lo; omega⟩
    obtain ⟨st, hst⟩ : ∃ st : Nat, c.trip.start = st := ⟨c.trip.start.toNat, by have := hg.tr.st; omega⟩
    have b1 := hg.tr.hi
    have b2 := hg.tr.st
    have hI := c32 id (by omega)
    have hL := c33 t c.trip l hlo hln
    have hC := c34 st (by omega)
    obtain ⟨kind, ⟨tid, tline, tstart⟩, to⟩ := c
    simp only at hid hst hlo hln hL hg b1 b2
    subst hid hst
    have hto := hg.to
    have hkd := hg.kd
    simp only at hto hkd
    unfold dcT dcB
    rw [hLn]
    rcases hkd with rfl | rfl | rfl
    · obtain ⟨s1, s2, s3, s4, s5, s6⟩ := dc_sizes [97, 100, 100] (by simp) id st (by omega) l.name hlf.1
      repeat' first | refine go_seq ?_ | refine go_region ?_ | refine go_draw drawsOk ?_ | ((first | refine go_op rfl ?_ | refine go_nil ?_ | refine go_dop rfl ?_ | refine go_dend (by kernel_rfl) ?_ | refine go_call [] (h0) rfl rfl rfl rfl ?_ | refine go_call [] (hI) rfl rfl rfl rfl ?_ | refine go_call [] (hL) rfl rfl rfl rfl ?_ | refine go_call [] (hC) rfl rfl rfl rfl ?_ | refine ⟨s1, ?_⟩ | refine ⟨s2, ?_⟩ | refine ⟨s3, ?_⟩ | refine ⟨s4, ?_⟩ | refine ⟨s5, ?_⟩ | refine ⟨s6, ?_⟩ | refine go_idxArr (i := 1) rfl rfl rfl rfl (by omega) (by omega) rfl rfl ?_) <;> conv => whnf) | ((first | refine Or.inl ?_ | refine go_loadB ?_ | refine ⟨by kernel_rfl, ?_⟩ | refine go_ret ?_) <;> conv => whnf) | ((first | refine go_skip ?_) <;> conv => whnf) | refine go_true rfl ?_ | refine go_false rfl ?_ | refine go_cond rfl (fun h => ?_) (fun h => ?_) | refine ⟨rfl, ?_⟩ | ((first | refine ⟨trivial, ?_⟩ | refine ⟨le_of_ble rfl, ?_⟩) <;> conv => whnf) | fail
      all_goals first
        | exact ret_imm2 rfl rfl rfl rfl rfl rfl rfl rfl
        | (exfalso; simp at h; done)
        | trace_state
    · obtain ⟨s1, s2, s3, s4, s5, s6⟩ := dc_sizes [114, 101, 109, 111, 118, 101] (by simp) id st (by omega) l.name hlf.1
      repeat' first | refine go_seq ?_ | refine go_region ?_ | refine go_draw drawsOk ?_ | ((first | refine go_op rfl ?_ | refine go_nil ?_ | refine go_dop rfl ?_ | refine go_dend (by kernel_rfl) ?_ | refine go_call [] (h0) rfl rfl rfl rfl ?_ | refine go_call [] (hI) rfl rfl rfl rfl ?_ | refine go_call [] (hL) rfl rfl rfl rfl ?_ | refine go_call [] (hC) rfl rfl rfl rfl ?_ | refine ⟨s1, ?_⟩ | refine ⟨s2, ?_⟩ | refine ⟨s3, ?_⟩ | refine ⟨s4, ?_⟩ | refine ⟨s5, ?_⟩ | refine ⟨s6, ?_⟩ | refine go_idxArr (i := 2) rfl rfl rfl rfl (by omega) (by omega) rfl rfl ?_) <;> conv => whnf) | ((first | refine Or.inl ?_ | refine go_loadB ?_ | refine ⟨by kernel_rfl, ?_⟩ | refine go_ret ?_) <;> conv => whnf) | ((first | refine go_skip ?_) <;> conv => whnf) | refine go_true rfl ?_ | refine go_false rfl ?_ | refine go_cond rfl (fun h => ?_) (fun h => ?_) | refine ⟨rfl, ?_⟩ | ((first | refine ⟨trivial, ?_⟩ | refine ⟨le_of_ble rfl, ?_⟩) <;> conv => whnf) | fail
      all_goals first
        | exact ret_imm2 rfl rfl rfl rfl rfl rfl rfl rfl
        | (exfalso; simp at h; done)
        | trace_state
    · have hto := hto rfl
      obtain ⟨tn, htn⟩ : ∃ tn : Nat, to = tn := ⟨to.toNat, by omega⟩
      subst htn
      have hC2 := c34 tn (by omega)
      obtain ⟨s1, s2, s3, s4, s5, s6⟩ := dc_sizes [109, 111, 118, 101] (by simp) id st (by omega) l.name hlf.1
      have s7 : (⟨#[32, 116, 111, 32]⟩ : ByteArray).size + (ofL (clockL tn)).size ≤ 4611686018427387904 := by
        rw [ofL_size, clockL_len]; show 4 + 5 ≤ _; omega
      have s8 : (ofL [109, 111, 118, 101] ++ spB ++ ofL (numT id) ++ spB ++ l.name ++ spB ++ ofL (clockL st)).size + ((⟨#[32, 116, 111, 32]⟩ : ByteArray) ++ ofL (clockL tn)).size ≤ 4611686018427387904 := by
        have e1 := dc_all [109, 111, 118, 101] (by simp) id st (by omega) l.name hlf.1
        have e2 := clockL_len tn
        have e3 : (⟨#[32, 116, 111, 32]⟩ : ByteArray).size = 4 := rfl
        generalize ofL [109, 111, 118, 101] ++ spB ++ ofL (numT id) ++ spB ++ l.name ++ spB ++ ofL (clockL st) = z at e1 ⊢
        rw [ByteArray.size_append, ofL_size, e2, e3]
        omega
      repeat' first | refine go_seq ?_ | refine go_region ?_ | refine go_draw drawsOk ?_ | ((first | refine go_op rfl ?_ | refine go_nil ?_ | refine go_dop rfl ?_ | refine go_dend (by kernel_rfl) ?_ | refine go_call [] (h0) rfl rfl rfl rfl ?_ | refine go_call [] (hI) rfl rfl rfl rfl ?_ | refine go_call [] (hL) rfl rfl rfl rfl ?_ | refine go_call [] (hC) rfl rfl rfl rfl ?_ | refine go_call [] (hC2) rfl rfl rfl rfl ?_ | refine ⟨s1, ?_⟩ | refine ⟨s2, ?_⟩ | refine ⟨s3, ?_⟩ | refine ⟨s4, ?_⟩ | refine ⟨s5, ?_⟩ | refine ⟨s6, ?_⟩ | refine ⟨s7, ?_⟩ | refine ⟨s8, ?_⟩ | refine go_idxArr (i := 3) rfl rfl rfl rfl (by omega) (by omega) rfl rfl ?_) <;> conv => whnf) | ((first | refine Or.inl ?_ | refine go_loadB ?_ | refine ⟨by kernel_rfl, ?_⟩ | refine go_ret ?_) <;> conv => whnf) | ((first | refine go_skip ?_) <;> conv => whnf) | refine go_true rfl ?_ | refine go_false rfl ?_ | refine go_cond rfl (fun h => ?_) (fun h => ?_) | refine ⟨rfl, ?_⟩ | ((first | refine ⟨trivial, ?_⟩ | refine ⟨le_of_ble rfl, ?_⟩) <;> conv => whnf) | fail
      all_goals first
        | exact ret_imm2 rfl rfl rfl rfl rfl rfl rfl rfl
        | (exfalso; simp at h; done)
        | trace_state

theorem c7 (t : Timetable) (hf : t.fit) (c : Change) : CallOk Tryz.prog 7 [.imm (.agg t.enc), .imm (.agg c.enc)] { res := [.imm (.str (dcR t c)), .imm (.bool (ivOk t [c]))] } := by
  refine callOk_of tyOk Tryz.func7 rfl rfl (le_of_ble rfl) (le_of_ble rfl) (mutOk_imm rfl _) ?_
  have h0 : CallOk Tryz.prog 25 [.imm (.agg t.enc), .imm (.list [c.enc])] { res := [.imm (.bool (ivOk t [c]))] } := c25 t hf [c] (by simp)
  unfold dcR
  cases hv : ivOk t [c] with
  | false =>
    rw [hv] at h0
    rw [if_neg (by simp)]
    repeat' first | refine go_seq ?_ | refine go_region ?_ | refine go_draw drawsOk ?_ | ((first | refine go_op rfl ?_ | refine go_nil ?_ | refine go_dop rfl ?_ | refine go_dend (by kernel_rfl) ?_ | refine go_call [] (h0) rfl rfl rfl rfl ?_) <;> conv => whnf) | ((first | refine go_loadB ?_ | refine ⟨by kernel_rfl, ?_⟩ | refine go_ret ?_) <;> conv => whnf) | ((first | refine go_skip ?_) <;> conv => whnf) | refine go_true rfl ?_ | refine go_false rfl ?_ | refine go_cond rfl (fun h => ?_) (fun h => ?_) | refine ⟨rfl, ?_⟩ | ((first | refine ⟨trivial, ?_⟩ | refine ⟨le_of_ble rfl, ?_⟩) <;> conv => whnf) | fail
    all_goals first
      | exact ret_imm2 rfl rfl rfl rfl rfl rfl rfl rfl
      | (exfalso; simp at h; done)
      | trace_state
  | true =>
    have hg := cgood hv
    rw [hv] at h0
    rw [if_pos rfl]
    obtain ⟨l, hlo, hln⟩ := hg.tr.ln
    have hlf := hf.1.2.2.2 l (List.mem_of_getElem? hln)
    have hLn : lnm t c = l.name := by unfold lnm; rw [hln]
    obtain ⟨id, hid⟩ : ∃ id : Nat, c.trip.id = id := ⟨c.trip.id.toNat, by have := hg.tr.lo; omega⟩
    obtain ⟨st, hst⟩ : ∃ st : Nat, c.trip.start = st := ⟨c.trip.start.toNat, by have := hg.tr.st; omega⟩
    have b1 := hg.tr.hi
    have b2 := hg.tr.st
    have hI := c26 id (by omega)
    have hrow : (t.net.lines.map Line.enc)[c.trip.line.toNat]? = some l.enc := by rw [List.getElem?_map, hln]; rfl
    have hC := c27 st (by omega)
    obtain ⟨kind, ⟨tid, tline, tstart⟩, to⟩ := c
    simp only at hid hst hlo hln hrow hg b1 b2
    subst hid hst
    have hto := hg.to
    have hkd := hg.kd
    simp only at hto hkd
    unfold dcT dcB
    rw [hLn]
    rcases hkd with rfl | rfl | rfl
    · obtain ⟨s1, s2, s3, s4, s5, s6⟩ := dc_sizes [97, 100, 100] (by simp) id st (by omega) l.name hlf.1
      repeat' first | refine go_seq ?_ | refine go_region ?_ | refine go_draw drawsOk ?_ | ((first | refine go_op rfl ?_ | refine go_nil ?_ | refine go_dop rfl ?_ | refine go_dend (by kernel_rfl) ?_ | refine go_call [] (h0) rfl rfl rfl rfl ?_ | refine go_call [] (hI) rfl rfl rfl rfl ?_ | refine go_call [] (hC) rfl rfl rfl rfl ?_ | refine ⟨s2, ?_⟩ | refine ⟨s3, ?_⟩ | refine ⟨s4, ?_⟩ | refine ⟨s5, ?_⟩ | refine ⟨s6, ?_⟩ | refine go_idx rfl rfl rfl rfl hlo hrow rfl ?_ | refine go_idxOwn (i := 1) rfl rfl rfl rfl rfl rfl (by omega) ?_ | refine go_loadEl (i := 1) (r := [.str ⟨#[97, 100, 100, 32]⟩]) rfl rfl rfl rfl ?_) <;> conv => whnf) | ((first | refine go_loadB ?_ | refine ⟨by kernel_rfl, ?_⟩ | refine go_ret ?_) <;> conv => whnf) | ((first | refine go_skip ?_) <;> conv => whnf) | refine go_true rfl ?_ | refine go_false rfl ?_ | refine go_cond rfl (fun h => ?_) (fun h => ?_) | refine ⟨rfl, ?_⟩ | ((first | refine ⟨trivial, ?_⟩ | refine ⟨le_of_ble rfl, ?_⟩) <;> conv => whnf) | fail
      all_goals first
        | exact ret_imm2 rfl rfl rfl rfl rfl rfl rfl rfl
        | (exfalso; simp at h; done)
        | trace_state
    · obtain ⟨s1, s2, s3, s4, s5, s6⟩ := dc_sizes [114, 101, 109, 111, 118, 101] (by simp) id st (by omega) l.name hlf.1
      repeat' first | refine go_seq ?_ | refine go_region ?_ | refine go_draw drawsOk ?_ | ((first | refine go_op rfl ?_ | refine go_nil ?_ | refine go_dop rfl ?_ | refine go_dend (by kernel_rfl) ?_ | refine go_call [] (h0) rfl rfl rfl rfl ?_ | refine go_call [] (hI) rfl rfl rfl rfl ?_ | refine go_call [] (hC) rfl rfl rfl rfl ?_ | refine ⟨s2, ?_⟩ | refine ⟨s3, ?_⟩ | refine ⟨s4, ?_⟩ | refine ⟨s5, ?_⟩ | refine ⟨s6, ?_⟩ | refine go_idx rfl rfl rfl rfl hlo hrow rfl ?_ | refine go_idxOwn (i := 2) rfl rfl rfl rfl rfl rfl (by omega) ?_ | refine go_loadEl (i := 2) (r := [.str ⟨#[114, 101, 109, 111, 118, 101, 32]⟩]) rfl rfl rfl rfl ?_) <;> conv => whnf) | ((first | refine go_loadB ?_ | refine ⟨by kernel_rfl, ?_⟩ | refine go_ret ?_) <;> conv => whnf) | ((first | refine go_skip ?_) <;> conv => whnf) | refine go_true rfl ?_ | refine go_false rfl ?_ | refine go_cond rfl (fun h => ?_) (fun h => ?_) | refine ⟨rfl, ?_⟩ | ((first | refine ⟨trivial, ?_⟩ | refine ⟨le_of_ble rfl, ?_⟩) <;> conv => whnf) | fail
      all_goals first
        | exact ret_imm2 rfl rfl rfl rfl rfl rfl rfl rfl
        | (exfalso; simp at h; done)
        | trace_state
    · have hto := hto rfl
      obtain ⟨tn, htn⟩ : ∃ tn : Nat, to = tn := ⟨to.toNat, by omega⟩
      subst htn
      have hC2 := c27 tn (by omega)
      obtain ⟨s1, s2, s3, s4, s5, s6⟩ := dc_sizes [109, 111, 118, 101] (by simp) id st (by omega) l.name hlf.1
      have s7 : (ofL [109, 111, 118, 101] ++ spB ++ ofL (numT id) ++ spB ++ l.name ++ spB ++ ofL (clockL st)).size + (⟨#[32, 116, 111, 32]⟩ : ByteArray).size ≤ 4611686018427387904 := by
        have e1 := dc_all [109, 111, 118, 101] (by simp) id st (by omega) l.name hlf.1
        have e3 : (⟨#[32, 116, 111, 32]⟩ : ByteArray).size = 4 := rfl
        rw [e3]
        omega
      have s8 : (ofL [109, 111, 118, 101] ++ spB ++ ofL (numT id) ++ spB ++ l.name ++ spB ++ ofL (clockL st) ++ (⟨#[32, 116, 111, 32]⟩ : ByteArray)).size + (ofL (clockL tn)).size ≤ 4611686018427387904 := by
        have e1 := dc_all [109, 111, 118, 101] (by simp) id st (by omega) l.name hlf.1
        have e2 := clockL_len tn
        have e3 : (⟨#[32, 116, 111, 32]⟩ : ByteArray).size = 4 := rfl
        generalize ofL [109, 111, 118, 101] ++ spB ++ ofL (numT id) ++ spB ++ l.name ++ spB ++ ofL (clockL st) = z at e1 ⊢
        rw [ByteArray.size_append, ofL_size, e2, e3]
        omega
      repeat' first | refine go_seq ?_ | refine go_region ?_ | refine go_draw drawsOk ?_ | ((first | refine go_op rfl ?_ | refine go_nil ?_ | refine go_dop rfl ?_ | refine go_dend (by kernel_rfl) ?_ | refine go_call [] (h0) rfl rfl rfl rfl ?_ | refine go_call [] (hI) rfl rfl rfl rfl ?_ | refine go_call [] (hC) rfl rfl rfl rfl ?_ | refine go_call [] (hC2) rfl rfl rfl rfl ?_ | refine ⟨s2, ?_⟩ | refine ⟨s3, ?_⟩ | refine ⟨s4, ?_⟩ | refine ⟨s5, ?_⟩ | refine ⟨s6, ?_⟩ | refine ⟨s7, ?_⟩ | refine ⟨s8, ?_⟩ | refine go_idx rfl rfl rfl rfl hlo hrow rfl ?_ | refine go_idxOwn (i := 3) rfl rfl rfl rfl rfl rfl (by omega) ?_ | refine go_loadEl (i := 3) (r := [.str ⟨#[109, 111, 118, 101, 32]⟩]) rfl rfl rfl rfl ?_) <;> conv => whnf) | ((first | refine go_loadB ?_ | refine ⟨by kernel_rfl, ?_⟩ | refine go_ret ?_) <;> conv => whnf) | ((first | refine go_skip ?_) <;> conv => whnf) | refine go_true rfl ?_ | refine go_false rfl ?_ | refine go_cond rfl (fun h => ?_) (fun h => ?_) | refine ⟨rfl, ?_⟩ | ((first | refine ⟨trivial, ?_⟩ | refine ⟨le_of_ble rfl, ?_⟩) <;> conv => whnf) | fail
      all_goals first
        | exact ret_imm2 rfl rfl rfl rfl rfl (congrArg D.str (ByteArray.append_assoc.symm ▸ rfl)) rfl rfl
        | (refine ret_imm2 rfl rfl rfl rfl rfl ?_ rfl rfl; rw [if_pos rfl, ← ByteArray.append_assoc]; rfl)
        | (exfalso; simp at h; done)
        | trace_state
end Go.Proofs.YtcfhmncbfekoaaaGreatDoor

