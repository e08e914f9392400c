/- The walks of a message's sentence, and the law of MessageText, walked. MADE BY PROGRAM (k2.py). -/
import Derived.Test.YtlkmbamenkjcmaaDoorK1D
namespace Go.Proofs.YtlkmbamenkjcmaaDoor
open Go Go.Am
set_option maxRecDepth 100000
set_option maxHeartbeats 4000000
attribute [local irreducible] amOps amC opCall opIndexAddr opPick retQ opMake opStore amDraw opAppend opLoad opNilCmp opIndex opSlice

def txt_d1 (m : Message) : List UInt8 := ([76, 105, 110, 101, 32] : List UInt8) ++ bytes m.line ++ ([32, 105, 115, 32, 100, 101, 108, 97, 121, 101, 100, 32, 98, 121, 32, 49, 32, 109, 105, 110, 117, 116, 101, 46] : List UInt8)
theorem txt_d1_eq (m : Message) : ofL (([76, 105, 110, 101, 32] : List UInt8)) ++ m.line ++ ofL (([32, 105, 115, 32, 100, 101, 108, 97, 121, 101, 100, 32, 98, 121, 32, 49, 32, 109, 105, 110, 117, 116, 101, 46] : List UInt8)) = ofL (txt_d1 m) := by
  unfold txt_d1
  rw [← ofL_app, ← ofL_app]
  rfl
def txt_dn (m : Message) : List UInt8 := ([76, 105, 110, 101, 32] : List UInt8) ++ bytes m.line ++ ([32, 105, 115, 32, 100, 101, 108, 97, 121, 101, 100, 32, 98, 121, 32] : List UInt8) ++ numT m.mins.toNat ++ ([32, 109, 105, 110, 117, 116, 101, 115, 46] : List UInt8)
theorem txt_dn_eq (m : Message) : ofL (([76, 105, 110, 101, 32] : List UInt8)) ++ m.line ++ ofL (([32, 105, 115, 32, 100, 101, 108, 97, 121, 101, 100, 32, 98, 121, 32] : List UInt8)) ++ ofL (numT m.mins.toNat) ++ ofL (([32, 109, 105, 110, 117, 116, 101, 115, 46] : List UInt8)) = ofL (txt_dn m) := by
  unfold txt_dn
  rw [← ofL_app, ← ofL_app, ← ofL_app, ← ofL_app]
  rfl
def txt_c (m : Message) : List UInt8 := ([84, 104, 101, 32, 100, 101, 112, 97, 114, 116, 117, 114, 101, 32, 111, 102, 32, 108, 105, 110, 101, 32] : List UInt8) ++ bytes m.line ++ ([32, 97, 116, 32] : List UInt8) ++ clockL m.fro.toNat ++ ([32, 105, 115, 32, 99, 97, 110, 99, 101, 108, 108, 101, 100, 46] : List UInt8)
theorem txt_c_eq (m : Message) : ofL (([84, 104, 101, 32, 100, 101, 112, 97, 114, 116, 117, 114, 101, 32, 111, 102, 32, 108, 105, 110, 101, 32] : List UInt8)) ++ m.line ++ ofL (([32, 97, 116, 32] : List UInt8)) ++ ofL (clockL m.fro.toNat) ++ ofL (([32, 105, 115, 32, 99, 97, 110, 99, 101, 108, 108, 101, 100, 46] : List UInt8)) = ofL (txt_c m) := by
  unfold txt_c
  rw [← ofL_app, ← ofL_app, ← ofL_app, ← ofL_app]
  rfl
def txt_s (m : Message) : List UInt8 := ([84, 104, 101, 32, 115, 116, 111, 112, 32] : List UInt8) ++ bytes m.stop ++ ([32, 105, 115, 32, 99, 108, 111, 115, 101, 100, 32, 102, 114, 111, 109, 32] : List UInt8) ++ clockL m.fro.toNat ++ ([32, 116, 111, 32] : List UInt8) ++ clockL m.to.toNat ++ ([46] : List UInt8)
theorem txt_s_eq (m : Message) : ofL (([84, 104, 101, 32, 115, 116, 111, 112, 32] : List UInt8)) ++ m.stop ++ ofL (([32, 105, 115, 32, 99, 108, 111, 115, 101, 100, 32, 102, 114, 111, 109, 32] : List UInt8)) ++ ofL (clockL m.fro.toNat) ++ ofL (([32, 116, 111, 32] : List UInt8)) ++ ofL (clockL m.to.toNat) ++ ofL (([46] : List UInt8)) = ofL (txt_s m) := by
  unfold txt_s
  rw [← ofL_app, ← ofL_app, ← ofL_app, ← ofL_app, ← ofL_app, ← ofL_app]
  rfl
def txt_r (m : Message) : List UInt8 := ([70, 114, 111, 109, 32] : List UInt8) ++ clockL m.fro.toNat ++ ([32, 116, 111, 32] : List UInt8) ++ clockL m.to.toNat ++ ([44, 32, 108, 105, 110, 101, 32] : List UInt8) ++ bytes m.line ++ ([32, 114, 117, 110, 115, 32, 111, 110, 108, 121, 32, 97, 115, 32, 102, 97, 114, 32, 97, 115, 32] : List UInt8) ++ bytes m.stop ++ ([46] : List UInt8)
theorem txt_r_eq (m : Message) : ofL (([70, 114, 111, 109, 32] : List UInt8)) ++ ofL (clockL m.fro.toNat) ++ ofL (([32, 116, 111, 32] : List UInt8)) ++ ofL (clockL m.to.toNat) ++ ofL (([44, 32, 108, 105, 110, 101, 32] : List UInt8)) ++ m.line ++ ofL (([32, 114, 117, 110, 115, 32, 111, 110, 108, 121, 32, 97, 115, 32, 102, 97, 114, 32, 97, 115, 32] : List UInt8)) ++ m.stop ++ ofL (([46] : List UInt8)) = ofL (txt_r m) := by
  unfold txt_r
  rw [← ofL_app, ← ofL_app, ← ofL_app, ← ofL_app, ← ofL_app, ← ofL_app, ← ofL_app, ← ofL_app]
  rfl
def txt_w (m : Message) : List UInt8 := ([84, 104, 101, 32, 100, 101, 112, 97, 114, 116, 117, 114, 101, 32, 111, 102, 32, 108, 105, 110, 101, 32] : List UInt8) ++ bytes m.line ++ ([32, 97, 116, 32] : List UInt8) ++ clockL m.fro.toNat ++ ([32, 105, 115, 32, 101, 120, 112, 101, 99, 116, 101, 100, 32, 116, 111, 32, 98, 101, 32, 99, 114, 111, 119, 100, 101, 100, 46] : List UInt8)
theorem txt_w_eq (m : Message) : ofL (([84, 104, 101, 32, 100, 101, 112, 97, 114, 116, 117, 114, 101, 32, 111, 102, 32, 108, 105, 110, 101, 32] : List UInt8)) ++ m.line ++ ofL (([32, 97, 116, 32] : List UInt8)) ++ ofL (clockL m.fro.toNat) ++ ofL (([32, 105, 115, 32, 101, 120, 112, 101, 99, 116, 101, 100, 32, 116, 111, 32, 98, 101, 32, 99, 114, 111, 119, 100, 101, 100, 46] : List UInt8)) = ofL (txt_w m) := by
  unfold txt_w
  rw [← ofL_app, ← ofL_app, ← ofL_app, ← ofL_app]
  rfl
def txt (m : Message) : List UInt8 :=
  if m.kind = 1 then (if m.mins = 1 then txt_d1 m else txt_dn m) else if m.kind = 2 then txt_c m else if m.kind = 3 then txt_s m else if m.kind = 4 then txt_r m else txt_w m
theorem num_one : numT 1 = [49] := by unfold numT; rw [Lg.num_eq]; rfl

theorem txt_d1_eq' (m : Message) : ofL (([76, 105, 110, 101, 32] : List UInt8)) ++ m.line ++ ofL (([32, 105, 115, 32, 100, 101, 108, 97, 121, 101, 100, 32, 98, 121, 32] : List UInt8)) ++ ofL (numT 1) ++ ofL (([32, 109, 105, 110, 117, 116, 101, 46] : List UInt8)) = ofL (txt_d1 m) := by
  rw [num_one]
  show ofL (([76, 105, 110, 101, 32] : List UInt8)) ++ ofL (bytes m.line) ++ ofL (([32, 105, 115, 32, 100, 101, 108, 97, 121, 101, 100, 32, 98, 121, 32] : List UInt8)) ++ ofL [49] ++ ofL (([32, 109, 105, 110, 117, 116, 101, 46] : List UInt8)) = ofL (txt_d1 m)
  rw [ofL_app, ofL_app, ofL_app, ofL_app]
  unfold txt_d1
  exact congrArg ofL (by simp)
/-- What a valid message's parts may be. -/
structure Parts (m : Message) : Prop where
  line : m.line.size ≤ 1000
  stop : m.stop.size ≤ 1000
  fro : 0 ≤ m.fro ∧ m.fro ≤ 1799
  to : 0 ≤ m.to ∧ m.to ≤ 1799
  mins : 0 ≤ m.mins ∧ m.mins ≤ 600
theorem name_size {s : ByteArray} (h : nameOk s = true) : s.size ≤ 1000 := by
  unfold nameOk inR at h
  simp only [Bool.and_eq_true, decide_eq_true_eq] at h
  omega
theorem e0_size {s : ByteArray} (h : (s == e0) = true) : s.size ≤ 1000 := by
  rw [beq_toListBytes] at h
  have h' : s.toList = e0.toList := by simpa using h
  have := congrArg List.length h'
  rw [ByteArray.toList_eq, ByteArray.toList_eq] at this
  have h2 : s.data.toList.length = 0 := this
  have := bytes_len s
  unfold bytes at this
  omega
theorem parts_of {m : Message} (h : msgOk m = true) : Parts m ∧ (m.kind = 1 ∨ m.kind = 2 ∨ m.kind = 3 ∨ m.kind = 4 ∨ m.kind = 5) := by
  unfold msgOk periodOk timeOk inR at h
  split at h
  · rename_i hk
    simp only [Bool.and_eq_true, decide_eq_true_eq] at h
    exact ⟨⟨name_size h.1.1.1.1, e0_size h.1.1.2, by omega, by omega, by omega⟩, by omega⟩
  · split at h
    · rename_i hk
      simp only [Bool.and_eq_true, decide_eq_true_eq] at h
      exact ⟨⟨name_size h.1.1.1.1, e0_size h.1.1.2, by omega, by omega, by omega⟩, by omega⟩
    · split at h
      · rename_i hk
        simp only [Bool.and_eq_true, decide_eq_true_eq] at h
        exact ⟨⟨e0_size h.1.2, name_size h.1.1.1, by omega, by omega, by omega⟩, by omega⟩
      · split at h
        · rename_i hk
          simp only [Bool.and_eq_true, decide_eq_true_eq] at h
          exact ⟨⟨name_size h.1.1.1, name_size h.1.1.2, by omega, by omega, by omega⟩, by omega⟩
        · cases h

theorem c20 (m : Message) (hv : msgOk m = true) : CallOk Tryd.prog 20 [.imm (.agg m.enc)] { res := [.imm (.str (ofL (txt m)))] } := by
  refine callOk_of tyOk Tryd.func20 rfl rfl (le_of_ble rfl) (le_of_ble rfl) (mutOk_imm rfl _) ?_
  obtain ⟨⟨pl, ps, pf, pt, pm⟩, hk⟩ := parts_of hv
  have hf : ((m.fro.toNat : Nat) : Int) = m.fro := by omega
  have ht : ((m.to.toNat : Nat) : Int) = m.to := by omega
  have hm : ((m.mins.toNat : Nat) : Int) = m.mins := by omega
  have cf := c36 m.fro.toNat (by omega)
  have ct := c36 m.to.toNat (by omega)
  have cm := c35 m.mins.toNat (by omega)
  rw [hf] at cf
  rw [ht] at ct
  rw [hm] at cm
  have hnl := Lg.num_len 3 m.mins.toNat (by omega)
  have hcl : (clockL m.fro.toNat).length = 5 := rfl
  have hct : (clockL m.to.toNat).length = 5 := rfl
  have hnl' : (numT m.mins.toNat).length ≤ 3 + 1 := hnl
  rcases hk with hk | hk | hk | hk | hk
  · by_cases h1 : m.mins = 1
    · have hx : txt m = txt_d1 m := by unfold txt; rw [if_pos hk, if_pos h1]
      rw [hx]
      repeat' first
        | refine go_seq ?_
        | refine go_region ?_
        | (refine go_op rfl ?_; conv => whnf)
        | (refine go_nil ?_; conv => whnf)
        | (refine go_hit rfl rfl rfl ?_; conv => whnf)
        | (refine go_miss rfl rfl rfl ?_)
        | (refine go_undef rfl rfl rfl ?_)
        | (refine go_splitT rfl rfl rfl (fun h => ?_) (fun h => ?_) <;> conv => whnf)
        | (refine go_splitF rfl rfl rfl (fun h => ?_) (fun h => ?_) <;> conv => whnf)
        | (refine go_storeBox rfl rfl rfl rfl rfl rfl ?_; conv => whnf)
        | (refine go_dop rfl ?_; conv => whnf)
        | (refine go_dhit rfl rfl ?_; conv => whnf)
        | (refine go_dmiss rfl rfl ?_; conv => whnf)
        | (refine go_dundef rfl rfl ?_; conv => whnf)
        | (refine go_dend (by kernel_rfl) ?_; conv => whnf)
        | refine go_draw drawsOk ?_
        | (refine go_pickT rfl ?_; conv => whnf)
        | (refine go_pickF rfl ?_; conv => whnf)
        | (refine go_pick rfl (fun h => ?_) (fun h => ?_) <;> conv => whnf)
        | (refine go_call [] (cf) rfl rfl rfl rfl ?_; conv => whnf)
        | (refine go_call [] (ct) rfl rfl rfl rfl ?_; conv => whnf)
        | (refine go_call [] (cm) rfl rfl rfl rfl ?_; conv => whnf)
        | (refine ⟨by simp only [ByteArray.size_append, ofL_size, szLit, List.length_cons, List.length_nil]; omega, ?_⟩; conv => whnf)
        | (refine go_dsplit2 rfl (fun h => ?_) (fun h => ?_) <;> conv => whnf)
        | (refine go_loadB ?_; conv => whnf)
        | (refine ⟨by kernel_rfl, ?_⟩; conv => whnf)
        | (refine go_ret ?_; conv => whnf)
        | refine go_block ?_
        | (refine go_skip ?_; conv => whnf)
        | (refine go_exit ?_; conv => whnf)
        | refine go_true rfl ?_
        | refine go_false rfl ?_
        | refine go_cond rfl (fun h => ?_) (fun h => ?_)
        | refine ⟨rfl, ?_⟩
        | (refine ⟨trivial, ?_⟩; conv => whnf)
        | (refine ⟨le_of_ble rfl, ?_⟩; conv => whnf)
        | fail
      all_goals first
        | (exfalso; simp only [decide_eq_true_eq, decide_eq_false_iff_not] at *; omega)
        | exact ret_imm rfl rfl rfl rfl (congrArg D.str (txt_d1_eq m)) rfl
        | trace_state
    · have hx : txt m = txt_dn m := by unfold txt; rw [if_pos hk, if_neg h1]
      rw [hx]
      repeat' first
        | refine go_seq ?_
        | refine go_region ?_
        | (refine go_op rfl ?_; conv => whnf)
        | (refine go_nil ?_; conv => whnf)
        | (refine go_hit rfl rfl rfl ?_; conv => whnf)
        | (refine go_miss rfl rfl rfl ?_)
        | (refine go_undef rfl rfl rfl ?_)
        | (refine go_splitT rfl rfl rfl (fun h => ?_) (fun h => ?_) <;> conv => whnf)
        | (refine go_splitF rfl rfl rfl (fun h => ?_) (fun h => ?_) <;> conv => whnf)
        | (refine go_storeBox rfl rfl rfl rfl rfl rfl ?_; conv => whnf)
        | (refine go_dop rfl ?_; conv => whnf)
        | (refine go_dhit rfl rfl ?_; conv => whnf)
        | (refine go_dmiss rfl rfl ?_; conv => whnf)
        | (refine go_dundef rfl rfl ?_; conv => whnf)
        | (refine go_dend (by kernel_rfl) ?_; conv => whnf)
        | refine go_draw drawsOk ?_
        | (refine go_pickT rfl ?_; conv => whnf)
        | (refine go_pickF rfl ?_; conv => whnf)
        | (refine go_pick rfl (fun h => ?_) (fun h => ?_) <;> conv => whnf)
        | (refine go_call [] (cf) rfl rfl rfl rfl ?_; conv => whnf)
        | (refine go_call [] (ct) rfl rfl rfl rfl ?_; conv => whnf)
        | (refine go_call [] (cm) rfl rfl rfl rfl ?_; conv => whnf)
        | (refine ⟨by simp only [ByteArray.size_append, ofL_size, szLit, List.length_cons, List.length_nil]; omega, ?_⟩; conv => whnf)
        | (refine go_dsplit2 rfl (fun h => ?_) (fun h => ?_) <;> conv => whnf)
        | (refine go_loadB ?_; conv => whnf)
        | (refine ⟨by kernel_rfl, ?_⟩; conv => whnf)
        | (refine go_ret ?_; conv => whnf)
        | refine go_block ?_
        | (refine go_skip ?_; conv => whnf)
        | (refine go_exit ?_; conv => whnf)
        | refine go_true rfl ?_
        | refine go_false rfl ?_
        | refine go_cond rfl (fun h => ?_) (fun h => ?_)
        | refine ⟨rfl, ?_⟩
        | (refine ⟨trivial, ?_⟩; conv => whnf)
        | (refine ⟨le_of_ble rfl, ?_⟩; conv => whnf)
        | fail
      all_goals first
        | (exfalso; simp only [decide_eq_true_eq, decide_eq_false_iff_not] at *; omega)
        | exact ret_imm rfl rfl rfl rfl (congrArg D.str (txt_dn_eq m)) rfl
        | trace_state
  · have hx : txt m = txt_c m := by unfold txt; rw [if_neg (by omega), if_pos hk]
    rw [hx]
    repeat' first
      | refine go_seq ?_
      | refine go_region ?_
      | (refine go_op rfl ?_; conv => whnf)
      | (refine go_nil ?_; conv => whnf)
      | (refine go_hit rfl rfl rfl ?_; conv => whnf)
      | (refine go_miss rfl rfl rfl ?_)
      | (refine go_undef rfl rfl rfl ?_)
      | (refine go_splitT rfl rfl rfl (fun h => ?_) (fun h => ?_) <;> conv => whnf)
      | (refine go_splitF rfl rfl rfl (fun h => ?_) (fun h => ?_) <;> conv => whnf)
      | (refine go_storeBox rfl rfl rfl rfl rfl rfl ?_; conv => whnf)
      | (refine go_dop rfl ?_; conv => whnf)
      | (refine go_dhit rfl rfl ?_; conv => whnf)
      | (refine go_dmiss rfl rfl ?_; conv => whnf)
      | (refine go_dundef rfl rfl ?_; conv => whnf)
      | (refine go_dend (by kernel_rfl) ?_; conv => whnf)
      | refine go_draw drawsOk ?_
      | (refine go_pickT rfl ?_; conv => whnf)
      | (refine go_pickF rfl ?_; conv => whnf)
      | (refine go_pick rfl (fun h => ?_) (fun h => ?_) <;> conv => whnf)
      | (refine go_call [] (cf) rfl rfl rfl rfl ?_; conv => whnf)
      | (refine go_call [] (ct) rfl rfl rfl rfl ?_; conv => whnf)
      | (refine go_call [] (cm) rfl rfl rfl rfl ?_; conv => whnf)
      | (refine ⟨by simp only [ByteArray.size_append, ofL_size, szLit, List.length_cons, List.length_nil]; omega, ?_⟩; conv => whnf)
      | (refine go_dsplit2 rfl (fun h => ?_) (fun h => ?_) <;> conv => whnf)
      | (refine go_loadB ?_; conv => whnf)
      | (refine ⟨by kernel_rfl, ?_⟩; conv => whnf)
      | (refine go_ret ?_; conv => whnf)
      | refine go_block ?_
      | (refine go_skip ?_; conv => whnf)
      | (refine go_exit ?_; conv => whnf)
      | refine go_true rfl ?_
      | refine go_false rfl ?_
      | refine go_cond rfl (fun h => ?_) (fun h => ?_)
      | refine ⟨rfl, ?_⟩
      | (refine ⟨trivial, ?_⟩; conv => whnf)
      | (refine ⟨le_of_ble rfl, ?_⟩; conv => whnf)
      | fail
    all_goals first
      | (exfalso; simp only [decide_eq_true_eq, decide_eq_false_iff_not] at *; omega)
      | exact ret_imm rfl rfl rfl rfl (congrArg D.str (txt_c_eq m)) rfl
      | trace_state
  · have hx : txt m = txt_s m := by unfold txt; rw [if_neg (by omega), if_neg (by omega), if_pos hk]
    rw [hx]
    repeat' first
      | refine go_seq ?_
      | refine go_region ?_
      | (refine go_op rfl ?_; conv => whnf)
      | (refine go_nil ?_; conv => whnf)
      | (refine go_hit rfl rfl rfl ?_; conv => whnf)
      | (refine go_miss rfl rfl rfl ?_)
      | (refine go_undef rfl rfl rfl ?_)
      | (refine go_splitT rfl rfl rfl (fun h => ?_) (fun h => ?_) <;> conv => whnf)
      | (refine go_splitF rfl rfl rfl (fun h => ?_) (fun h => ?_) <;> conv => whnf)
      | (refine go_storeBox rfl rfl rfl rfl rfl rfl ?_; conv => whnf)
      | (refine go_dop rfl ?_; conv => whnf)
      | (refine go_dhit rfl rfl ?_; conv => whnf)
      | (refine go_dmiss rfl rfl ?_; conv => whnf)
      | (refine go_dundef rfl rfl ?_; conv => whnf)
      | (refine go_dend (by kernel_rfl) ?_; conv => whnf)
      | refine go_draw drawsOk ?_
      | (refine go_pickT rfl ?_; conv => whnf)
      | (refine go_pickF rfl ?_; conv => whnf)
      | (refine go_pick rfl (fun h => ?_) (fun h => ?_) <;> conv => whnf)
      | (refine go_call [] (cf) rfl rfl rfl rfl ?_; conv => whnf)
      | (refine go_call [] (ct) rfl rfl rfl rfl ?_; conv => whnf)
      | (refine go_call [] (cm) rfl rfl rfl rfl ?_; conv => whnf)
      | (refine ⟨by simp only [ByteArray.size_append, ofL_size, szLit, List.length_cons, List.length_nil]; omega, ?_⟩; conv => whnf)
      | (refine go_dsplit2 rfl (fun h => ?_) (fun h => ?_) <;> conv => whnf)
      | (refine go_loadB ?_; conv => whnf)
      | (refine ⟨by kernel_rfl, ?_⟩; conv => whnf)
      | (refine go_ret ?_; conv => whnf)
      | refine go_block ?_
      | (refine go_skip ?_; conv => whnf)
      | (refine go_exit ?_; conv => whnf)
      | refine go_true rfl ?_
      | refine go_false rfl ?_
      | refine go_cond rfl (fun h => ?_) (fun h => ?_)
      | refine ⟨rfl, ?_⟩
      | (refine ⟨trivial, ?_⟩; conv => whnf)
      | (refine ⟨le_of_ble rfl, ?_⟩; conv => whnf)
      | fail
    all_goals first
      | (exfalso; simp only [decide_eq_true_eq, decide_eq_false_iff_not] at *; omega)
      | exact ret_imm rfl rfl rfl rfl (congrArg D.str (txt_s_eq m)) rfl
      | trace_state
  · have hx : txt m = txt_r m := by unfold txt; rw [if_neg (by omega), if_neg (by omega), if_neg (by omega), if_pos hk]
    rw [hx]
    repeat' first
      | refine go_seq ?_
      | refine go_region ?_
      | (refine go_op rfl ?_; conv => whnf)
      | (refine go_nil ?_; conv => whnf)
      | (refine go_hit rfl rfl rfl ?_; conv => whnf)
      | (refine go_miss rfl rfl rfl ?_)
      | (refine go_undef rfl rfl rfl ?_)
      | (refine go_splitT rfl rfl rfl (fun h => ?_) (fun h => ?_) <;> conv => whnf)
      | (refine go_splitF rfl rfl rfl (fun h => ?_) (fun h => ?_) <;> conv => whnf)
      | (refine go_storeBox rfl rfl rfl rfl rfl rfl ?_; conv => whnf)
      | (refine go_dop rfl ?_; conv => whnf)
      | (refine go_dhit rfl rfl ?_; conv => whnf)
      | (refine go_dmiss rfl rfl ?_; conv => whnf)
      | (refine go_dundef rfl rfl ?_; conv => whnf)
      | (refine go_dend (by kernel_rfl) ?_; conv => whnf)
      | refine go_draw drawsOk ?_
      | (refine go_pickT rfl ?_; conv => whnf)
      | (refine go_pickF rfl ?_; conv => whnf)
      | (refine go_pick rfl (fun h => ?_) (fun h => ?_) <;> conv => whnf)
      | (refine go_call [] (cf) rfl rfl rfl rfl ?_; conv => whnf)
      | (refine go_call [] (ct) rfl rfl rfl rfl ?_; conv => whnf)
      | (refine go_call [] (cm) rfl rfl rfl rfl ?_; conv => whnf)
      | (refine ⟨by simp only [ByteArray.size_append, ofL_size, szLit, List.length_cons, List.length_nil]; omega, ?_⟩; conv => whnf)
      | (refine go_dsplit2 rfl (fun h => ?_) (fun h => ?_) <;> conv => whnf)
      | (refine go_loadB ?_; conv => whnf)
      | (refine ⟨by kernel_rfl, ?_⟩; conv => whnf)
      | (refine go_ret ?_; conv => whnf)
      | refine go_block ?_
      | (refine go_skip ?_; conv => whnf)
      | (refine go_exit ?_; conv => whnf)
      | refine go_true rfl ?_
      | refine go_false rfl ?_
      | refine go_cond rfl (fun h => ?_) (fun h => ?_)
      | refine ⟨rfl, ?_⟩
      | (refine ⟨trivial, ?_⟩; conv => whnf)
      | (refine ⟨le_of_ble rfl, ?_⟩; conv => whnf)
      | fail
    all_goals first
      | (exfalso; simp only [decide_eq_true_eq, decide_eq_false_iff_not] at *; omega)
      | exact ret_imm rfl rfl rfl rfl (congrArg D.str (txt_r_eq m)) rfl
      | trace_state
  · have hx : txt m = txt_w m := by unfold txt; rw [if_neg (by omega), if_neg (by omega), if_neg (by omega), if_neg (by omega)]
    rw [hx]
    repeat' first
      | refine go_seq ?_
      | refine go_region ?_
      | (refine go_op rfl ?_; conv => whnf)
      | (refine go_nil ?_; conv => whnf)
      | (refine go_hit rfl rfl rfl ?_; conv => whnf)
      | (refine go_miss rfl rfl rfl ?_)
      | (refine go_undef rfl rfl rfl ?_)
      | (refine go_splitT rfl rfl rfl (fun h => ?_) (fun h => ?_) <;> conv => whnf)
      | (refine go_splitF rfl rfl rfl (fun h => ?_) (fun h => ?_) <;> conv => whnf)
      | (refine go_storeBox rfl rfl rfl rfl rfl rfl ?_; conv => whnf)
      | (refine go_dop rfl ?_; conv => whnf)
      | (refine go_dhit rfl rfl ?_; conv => whnf)
      | (refine go_dmiss rfl rfl ?_; conv => whnf)
      | (refine go_dundef rfl rfl ?_; conv => whnf)
      | (refine go_dend (by kernel_rfl) ?_; conv => whnf)
      | refine go_draw drawsOk ?_
      | (refine go_pickT rfl ?_; conv => whnf)
      | (refine go_pickF rfl ?_; conv => whnf)
      | (refine go_pick rfl (fun h => ?_) (fun h => ?_) <;> conv => whnf)
      | (refine go_call [] (cf) rfl rfl rfl rfl ?_; conv => whnf)
      | (refine go_call [] (ct) rfl rfl rfl rfl ?_; conv => whnf)
      | (refine go_call [] (cm) rfl rfl rfl rfl ?_; conv => whnf)
      | (refine ⟨by simp only [ByteArray.size_append, ofL_size, szLit, List.length_cons, List.length_nil]; omega, ?_⟩; conv => whnf)
      | (refine go_dsplit2 rfl (fun h => ?_) (fun h => ?_) <;> conv => whnf)
      | (refine go_loadB ?_; conv => whnf)
      | (refine ⟨by kernel_rfl, ?_⟩; conv => whnf)
      | (refine go_ret ?_; conv => whnf)
      | refine go_block ?_
      | (refine go_skip ?_; conv => whnf)
      | (refine go_exit ?_; conv => whnf)
      | refine go_true rfl ?_
      | refine go_false rfl ?_
      | refine go_cond rfl (fun h => ?_) (fun h => ?_)
      | refine ⟨rfl, ?_⟩
      | (refine ⟨trivial, ?_⟩; conv => whnf)
      | (refine ⟨le_of_ble rfl, ?_⟩; conv => whnf)
      | fail
    all_goals first
      | (exfalso; simp only [decide_eq_true_eq, decide_eq_false_iff_not] at *; omega)
      | exact ret_imm rfl rfl rfl rfl (congrArg D.str (txt_w_eq m)) rfl
      | trace_state

theorem c22 (m : Message) (hv : msgOk m = true) : CallOk Tryd.prog 22 [.imm (.agg m.enc)] { res := [.imm (.str (ofL (txt m)))] } := by
  refine callOk_of tyOk Tryd.func22 rfl rfl (le_of_ble rfl) (le_of_ble rfl) (mutOk_imm rfl _) ?_
  obtain ⟨⟨pl, ps, pf, pt, pm⟩, hk⟩ := parts_of hv
  have hf : ((m.fro.toNat : Nat) : Int) = m.fro := by omega
  have ht : ((m.to.toNat : Nat) : Int) = m.to := by omega
  have hm : ((m.mins.toNat : Nat) : Int) = m.mins := by omega
  have cf := c39 m.fro.toNat (by omega)
  have ct := c39 m.to.toNat (by omega)
  have cm := c38 m.mins.toNat (by omega)
  rw [hf] at cf
  rw [ht] at ct
  rw [hm] at cm
  have hnl := Lg.num_len 3 m.mins.toNat (by omega)
  have hcl : (clockL m.fro.toNat).length = 5 := rfl
  have hct : (clockL m.to.toNat).length = 5 := rfl
  have hnl' : (numT m.mins.toNat).length ≤ 3 + 1 := hnl
  rcases hk with hk | hk | hk | hk | hk
  · by_cases h1 : m.mins = 1
    · have hx : txt m = txt_d1 m := by unfold txt; rw [if_pos hk, if_pos h1]
      rw [hx]
      have hm1 : m.mins.toNat = 1 := by omega
      have hd1 := txt_d1_eq' m
      rw [← hm1] at hd1
      repeat' first
        | refine go_seq ?_
        | refine go_region ?_
        | (refine go_op rfl ?_; conv => whnf)
        | (refine go_nil ?_; conv => whnf)
        | (refine go_hit rfl rfl rfl ?_; conv => whnf)
        | (refine go_miss rfl rfl rfl ?_)
        | (refine go_undef rfl rfl rfl ?_)
        | (refine go_splitT rfl rfl rfl (fun h => ?_) (fun h => ?_) <;> conv => whnf)
        | (refine go_splitF rfl rfl rfl (fun h => ?_) (fun h => ?_) <;> conv => whnf)
        | (refine go_storeBox rfl rfl rfl rfl rfl rfl ?_; conv => whnf)
        | (refine go_dop rfl ?_; conv => whnf)
        | (refine go_dhit rfl rfl ?_; conv => whnf)
        | (refine go_dmiss rfl rfl ?_; conv => whnf)
        | (refine go_dundef rfl rfl ?_; conv => whnf)
        | (refine go_dend (by kernel_rfl) ?_; conv => whnf)
        | refine go_draw drawsOk ?_
        | (refine go_pickT rfl ?_; conv => whnf)
        | (refine go_pickF rfl ?_; conv => whnf)
        | (refine go_pick rfl (fun h => ?_) (fun h => ?_) <;> conv => whnf)
        | (refine go_call [] (cf) rfl rfl rfl rfl ?_; conv => whnf)
        | (refine go_call [] (ct) rfl rfl rfl rfl ?_; conv => whnf)
        | (refine go_call [] (cm) rfl rfl rfl rfl ?_; conv => whnf)
        | (refine ⟨by simp only [ByteArray.size_append, ofL_size, szLit, List.length_cons, List.length_nil]; omega, ?_⟩; conv => whnf)
        | (refine go_dsplit2 rfl (fun h => ?_) (fun h => ?_) <;> conv => whnf)
        | (refine go_loadB ?_; conv => whnf)
        | (refine ⟨by kernel_rfl, ?_⟩; conv => whnf)
        | (refine go_ret ?_; conv => whnf)
        | refine go_block ?_
        | (refine go_skip ?_; conv => whnf)
        | (refine go_exit ?_; conv => whnf)
        | refine go_true rfl ?_
        | refine go_false rfl ?_
        | refine go_cond rfl (fun h => ?_) (fun h => ?_)
        | refine ⟨rfl, ?_⟩
        | (refine ⟨trivial, ?_⟩; conv => whnf)
        | (refine ⟨le_of_ble rfl, ?_⟩; conv => whnf)
        | fail
      all_goals first
        | (exfalso; simp only [decide_eq_true_eq, decide_eq_false_iff_not] at *; omega)
        | exact ret_imm rfl rfl rfl rfl (congrArg D.str (hd1)) rfl
        | trace_state
    · have hx : txt m = txt_dn m := by unfold txt; rw [if_pos hk, if_neg h1]
      rw [hx]
      repeat' first
        | refine go_seq ?_
        | refine go_region ?_
        | (refine go_op rfl ?_; conv => whnf)
        | (refine go_nil ?_; conv => whnf)
        | (refine go_hit rfl rfl rfl ?_; conv => whnf)
        | (refine go_miss rfl rfl rfl ?_)
        | (refine go_undef rfl rfl rfl ?_)
        | (refine go_splitT rfl rfl rfl (fun h => ?_) (fun h => ?_) <;> conv => whnf)
        | (refine go_splitF rfl rfl rfl (fun h => ?_) (fun h => ?_) <;> conv => whnf)
        | (refine go_storeBox rfl rfl rfl rfl rfl rfl ?_; conv => whnf)
        | (refine go_dop rfl ?_; conv => whnf)
        | (refine go_dhit rfl rfl ?_; conv => whnf)
        | (refine go_dmiss rfl rfl ?_; conv => whnf)
        | (refine go_dundef rfl rfl ?_; conv => whnf)
        | (refine go_dend (by kernel_rfl) ?_; conv => whnf)
        | refine go_draw drawsOk ?_
        | (refine go_pickT rfl ?_; conv => whnf)
        | (refine go_pickF rfl ?_; conv => whnf)
        | (refine go_pick rfl (fun h => ?_) (fun h => ?_) <;> conv => whnf)
        | (refine go_call [] (cf) rfl rfl rfl rfl ?_; conv => whnf)
        | (refine go_call [] (ct) rfl rfl rfl rfl ?_; conv => whnf)
        | (refine go_call [] (cm) rfl rfl rfl rfl ?_; conv => whnf)
        | (refine ⟨by simp only [ByteArray.size_append, ofL_size, szLit, List.length_cons, List.length_nil]; omega, ?_⟩; conv => whnf)
        | (refine go_dsplit2 rfl (fun h => ?_) (fun h => ?_) <;> conv => whnf)
        | (refine go_loadB ?_; conv => whnf)
        | (refine ⟨by kernel_rfl, ?_⟩; conv => whnf)
        | (refine go_ret ?_; conv => whnf)
        | refine go_block ?_
        | (refine go_skip ?_; conv => whnf)
        | (refine go_exit ?_; conv => whnf)
        | refine go_true rfl ?_
        | refine go_false rfl ?_
        | refine go_cond rfl (fun h => ?_) (fun h => ?_)
        | refine ⟨rfl, ?_⟩
        | (refine ⟨trivial, ?_⟩; conv => whnf)
        | (refine ⟨le_of_ble rfl, ?_⟩; conv => whnf)
        | fail
      all_goals first
        | (exfalso; simp only [decide_eq_true_eq, decide_eq_false_iff_not] at *; omega)
        | exact ret_imm rfl rfl rfl rfl (congrArg D.str (txt_dn_eq m)) rfl
        | trace_state
  · have hx : txt m = txt_c m := by unfold txt; rw [if_neg (by omega), if_pos hk]
    rw [hx]
    repeat' first
      | refine go_seq ?_
      | refine go_region ?_
      | (refine go_op rfl ?_; conv => whnf)
      | (refine go_nil ?_; conv => whnf)
      | (refine go_hit rfl rfl rfl ?_; conv => whnf)
      | (refine go_miss rfl rfl rfl ?_)
      | (refine go_undef rfl rfl rfl ?_)
      | (refine go_splitT rfl rfl rfl (fun h => ?_) (fun h => ?_) <;> conv => whnf)
      | (refine go_splitF rfl rfl rfl (fun h => ?_) (fun h => ?_) <;> conv => whnf)
      | (refine go_storeBox rfl rfl rfl rfl rfl rfl ?_; conv => whnf)
      | (refine go_dop rfl ?_; conv => whnf)
      | (refine go_dhit rfl rfl ?_; conv => whnf)
      | (refine go_dmiss rfl rfl ?_; conv => whnf)
      | (refine go_dundef rfl rfl ?_; conv => whnf)
      | (refine go_dend (by kernel_rfl) ?_; conv => whnf)
      | refine go_draw drawsOk ?_
      | (refine go_pickT rfl ?_; conv => whnf)
      | (refine go_pickF rfl ?_; conv => whnf)
      | (refine go_pick rfl (fun h => ?_) (fun h => ?_) <;> conv => whnf)
      | (refine go_call [] (cf) rfl rfl rfl rfl ?_; conv => whnf)
      | (refine go_call [] (ct) rfl rfl rfl rfl ?_; conv => whnf)
      | (refine go_call [] (cm) rfl rfl rfl rfl ?_; conv => whnf)
      | (refine ⟨by simp only [ByteArray.size_append, ofL_size, szLit, List.length_cons, List.length_nil]; omega, ?_⟩; conv => whnf)
      | (refine go_dsplit2 rfl (fun h => ?_) (fun h => ?_) <;> conv => whnf)
      | (refine go_loadB ?_; conv => whnf)
      | (refine ⟨by kernel_rfl, ?_⟩; conv => whnf)
      | (refine go_ret ?_; conv => whnf)
      | refine go_block ?_
      | (refine go_skip ?_; conv => whnf)
      | (refine go_exit ?_; conv => whnf)
      | refine go_true rfl ?_
      | refine go_false rfl ?_
      | refine go_cond rfl (fun h => ?_) (fun h => ?_)
      | refine ⟨rfl, ?_⟩
      | (refine ⟨trivial, ?_⟩; conv => whnf)
      | (refine ⟨le_of_ble rfl, ?_⟩; conv => whnf)
      | fail
    all_goals first
      | (exfalso; simp only [decide_eq_true_eq, decide_eq_false_iff_not] at *; omega)
      | exact ret_imm rfl rfl rfl rfl (congrArg D.str (txt_c_eq m)) rfl
      | trace_state
  · have hx : txt m = txt_s m := by unfold txt; rw [if_neg (by omega), if_neg (by omega), if_pos hk]
    rw [hx]
    repeat' first
      | refine go_seq ?_
      | refine go_region ?_
      | (refine go_op rfl ?_; conv => whnf)
      | (refine go_nil ?_; conv => whnf)
      | (refine go_hit rfl rfl rfl ?_; conv => whnf)
      | (refine go_miss rfl rfl rfl ?_)
      | (refine go_undef rfl rfl rfl ?_)
      | (refine go_splitT rfl rfl rfl (fun h => ?_) (fun h => ?_) <;> conv => whnf)
      | (refine go_splitF rfl rfl rfl (fun h => ?_) (fun h => ?_) <;> conv => whnf)
      | (refine go_storeBox rfl rfl rfl rfl rfl rfl ?_; conv => whnf)
      | (refine go_dop rfl ?_; conv => whnf)
      | (refine go_dhit rfl rfl ?_; conv => whnf)
      | (refine go_dmiss rfl rfl ?_; conv => whnf)
      | (refine go_dundef rfl rfl ?_; conv => whnf)
      | (refine go_dend (by kernel_rfl) ?_; conv => whnf)
      | refine go_draw drawsOk ?_
      | (refine go_pickT rfl ?_; conv => whnf)
      | (refine go_pickF rfl ?_; conv => whnf)
      | (refine go_pick rfl (fun h => ?_) (fun h => ?_) <;> conv => whnf)
      | (refine go_call [] (cf) rfl rfl rfl rfl ?_; conv => whnf)
      | (refine go_call [] (ct) rfl rfl rfl rfl ?_; conv => whnf)
      | (refine go_call [] (cm) rfl rfl rfl rfl ?_; conv => whnf)
      | (refine ⟨by simp only [ByteArray.size_append, ofL_size, szLit, List.length_cons, List.length_nil]; omega, ?_⟩; conv => whnf)
      | (refine go_dsplit2 rfl (fun h => ?_) (fun h => ?_) <;> conv => whnf)
      | (refine go_loadB ?_; conv => whnf)
      | (refine ⟨by kernel_rfl, ?_⟩; conv => whnf)
      | (refine go_ret ?_; conv => whnf)
      | refine go_block ?_
      | (refine go_skip ?_; conv => whnf)
      | (refine go_exit ?_; conv => whnf)
      | refine go_true rfl ?_
      | refine go_false rfl ?_
      | refine go_cond rfl (fun h => ?_) (fun h => ?_)
      | refine ⟨rfl, ?_⟩
      | (refine ⟨trivial, ?_⟩; conv => whnf)
      | (refine ⟨le_of_ble rfl, ?_⟩; conv => whnf)
      | fail
    all_goals first
      | (exfalso; simp only [decide_eq_true_eq, decide_eq_false_iff_not] at *; omega)
      | exact ret_imm rfl rfl rfl rfl (congrArg D.str (txt_s_eq m)) rfl
      | trace_state
  · have hx : txt m = txt_r m := by unfold txt; rw [if_neg (by omega), if_neg (by omega), if_neg (by omega), if_pos hk]
    rw [hx]
    repeat' first
      | refine go_seq ?_
      | refine go_region ?_
      | (refine go_op rfl ?_; conv => whnf)
      | (refine go_nil ?_; conv => whnf)
      | (refine go_hit rfl rfl rfl ?_; conv => whnf)
      | (refine go_miss rfl rfl rfl ?_)
      | (refine go_undef rfl rfl rfl ?_)
      | (refine go_splitT rfl rfl rfl (fun h => ?_) (fun h => ?_) <;> conv => whnf)
      | (refine go_splitF rfl rfl rfl (fun h => ?_) (fun h => ?_) <;> conv => whnf)
      | (refine go_storeBox rfl rfl rfl rfl rfl rfl ?_; conv => whnf)
      | (refine go_dop rfl ?_; conv => whnf)
      | (refine go_dhit rfl rfl ?_; conv => whnf)
      | (refine go_dmiss rfl rfl ?_; conv => whnf)
      | (refine go_dundef rfl rfl ?_; conv => whnf)
      | (refine go_dend (by kernel_rfl) ?_; conv => whnf)
      | refine go_draw drawsOk ?_
      | (refine go_pickT rfl ?_; conv => whnf)
      | (refine go_pickF rfl ?_; conv => whnf)
      | (refine go_pick rfl (fun h => ?_) (fun h => ?_) <;> conv => whnf)
      | (refine go_call [] (cf) rfl rfl rfl rfl ?_; conv => whnf)
      | (refine go_call [] (ct) rfl rfl rfl rfl ?_; conv => whnf)
      | (refine go_call [] (cm) rfl rfl rfl rfl ?_; conv => whnf)
      | (refine ⟨by simp only [ByteArray.size_append, ofL_size, szLit, List.length_cons, List.length_nil]; omega, ?_⟩; conv => whnf)
      | (refine go_dsplit2 rfl (fun h => ?_) (fun h => ?_) <;> conv => whnf)
      | (refine go_loadB ?_; conv => whnf)
      | (refine ⟨by kernel_rfl, ?_⟩; conv => whnf)
      | (refine go_ret ?_; conv => whnf)
      | refine go_block ?_
      | (refine go_skip ?_; conv => whnf)
      | (refine go_exit ?_; conv => whnf)
      | refine go_true rfl ?_
      | refine go_false rfl ?_
      | refine go_cond rfl (fun h => ?_) (fun h => ?_)
      | refine ⟨rfl, ?_⟩
      | (refine ⟨trivial, ?_⟩; conv => whnf)
      | (refine ⟨le_of_ble rfl, ?_⟩; conv => whnf)
      | fail
    all_goals first
      | (exfalso; simp only [decide_eq_true_eq, decide_eq_false_iff_not] at *; omega)
      | exact ret_imm rfl rfl rfl rfl (congrArg D.str (txt_r_eq m)) rfl
      | trace_state
  · have hx : txt m = txt_w m := by unfold txt; rw [if_neg (by omega), if_neg (by omega), if_neg (by omega), if_neg (by omega)]
    rw [hx]
    repeat' first
      | refine go_seq ?_
      | refine go_region ?_
      | (refine go_op rfl ?_; conv => whnf)
      | (refine go_nil ?_; conv => whnf)
      | (refine go_hit rfl rfl rfl ?_; conv => whnf)
      | (refine go_miss rfl rfl rfl ?_)
      | (refine go_undef rfl rfl rfl ?_)
      | (refine go_splitT rfl rfl rfl (fun h => ?_) (fun h => ?_) <;> conv => whnf)
      | (refine go_splitF rfl rfl rfl (fun h => ?_) (fun h => ?_) <;> conv => whnf)
      | (refine go_storeBox rfl rfl rfl rfl rfl rfl ?_; conv => whnf)
      | (refine go_dop rfl ?_; conv => whnf)
      | (refine go_dhit rfl rfl ?_; conv => whnf)
      | (refine go_dmiss rfl rfl ?_; conv => whnf)
      | (refine go_dundef rfl rfl ?_; conv => whnf)
      | (refine go_dend (by kernel_rfl) ?_; conv => whnf)
      | refine go_draw drawsOk ?_
      | (refine go_pickT rfl ?_; conv => whnf)
      | (refine go_pickF rfl ?_; conv => whnf)
      | (refine go_pick rfl (fun h => ?_) (fun h => ?_) <;> conv => whnf)
      | (refine go_call [] (cf) rfl rfl rfl rfl ?_; conv => whnf)
      | (refine go_call [] (ct) rfl rfl rfl rfl ?_; conv => whnf)
      | (refine go_call [] (cm) rfl rfl rfl rfl ?_; conv => whnf)
      | (refine ⟨by simp only [ByteArray.size_append, ofL_size, szLit, List.length_cons, List.length_nil]; omega, ?_⟩; conv => whnf)
      | (refine go_dsplit2 rfl (fun h => ?_) (fun h => ?_) <;> conv => whnf)
      | (refine go_loadB ?_; conv => whnf)
      | (refine ⟨by kernel_rfl, ?_⟩; conv => whnf)
      | (refine go_ret ?_; conv => whnf)
      | refine go_block ?_
      | (refine go_skip ?_; conv => whnf)
      | (refine go_exit ?_; conv => whnf)
      | refine go_true rfl ?_
      | refine go_false rfl ?_
      | refine go_cond rfl (fun h => ?_) (fun h => ?_)
      | refine ⟨rfl, ?_⟩
      | (refine ⟨trivial, ?_⟩; conv => whnf)
      | (refine ⟨le_of_ble rfl, ?_⟩; conv => whnf)
      | fail
    all_goals first
      | (exfalso; simp only [decide_eq_true_eq, decide_eq_false_iff_not] at *; omega)
      | exact ret_imm rfl rfl rfl rfl (congrArg D.str (txt_w_eq m)) rfl
      | trace_state

def mtR (m : Message) : List UInt8 := if msgOk m then txt m else []
theorem c7 (m : Message) : CallOk Tryd.prog 7 [.imm (.agg m.enc)] { res := [.imm (.str (ofL (mtR m))), .imm (.bool (msgOk m))] } := by
  refine callOk_of tyOk Tryd.func7 rfl rfl (le_of_ble rfl) (le_of_ble rfl) (mutOk_imm rfl _) ?_
  have hg := c19 m
  cases hv : msgOk m with
  | false =>
    have hr : mtR m = [] := by unfold mtR; rw [hv]; rfl
    rw [hv] at hg
    rw [hr]
    repeat' first
      | refine go_seq ?_
      | refine go_region ?_
      | (refine go_op rfl ?_; conv => whnf)
      | (refine go_nil ?_; conv => whnf)
      | (refine go_hit rfl rfl rfl ?_; conv => whnf)
      | (refine go_miss rfl rfl rfl ?_)
      | (refine go_undef rfl rfl rfl ?_)
      | (refine go_splitT rfl rfl rfl (fun h => ?_) (fun h => ?_) <;> conv => whnf)
      | (refine go_splitF rfl rfl rfl (fun h => ?_) (fun h => ?_) <;> conv => whnf)
      | (refine go_storeBox rfl rfl rfl rfl rfl rfl ?_; conv => whnf)
      | (refine go_dop rfl ?_; conv => whnf)
      | (refine go_dhit rfl rfl ?_; conv => whnf)
      | (refine go_dmiss rfl rfl ?_; conv => whnf)
      | (refine go_dundef rfl rfl ?_; conv => whnf)
      | (refine go_dend (by kernel_rfl) ?_; conv => whnf)
      | refine go_draw drawsOk ?_
      | (refine go_pickT rfl ?_; conv => whnf)
      | (refine go_pickF rfl ?_; conv => whnf)
      | (refine go_pick rfl (fun h => ?_) (fun h => ?_) <;> conv => whnf)
      | (refine go_call [] (hg) rfl rfl rfl rfl ?_; conv => whnf)
      | (refine go_dsplit2 rfl (fun h => ?_) (fun h => ?_) <;> conv => whnf)
      | (refine go_loadB ?_; conv => whnf)
      | (refine ⟨by kernel_rfl, ?_⟩; conv => whnf)
      | (refine go_ret ?_; conv => whnf)
      | refine go_block ?_
      | (refine go_skip ?_; conv => whnf)
      | (refine go_exit ?_; conv => whnf)
      | refine go_true rfl ?_
      | refine go_false rfl ?_
      | refine go_cond rfl (fun h => ?_) (fun h => ?_)
      | refine ⟨rfl, ?_⟩
      | (refine ⟨trivial, ?_⟩; conv => whnf)
      | (refine ⟨le_of_ble rfl, ?_⟩; conv => whnf)
      | fail
    all_goals exact ret_imm2 rfl rfl rfl rfl rfl rfl rfl rfl
  | true =>
    have hr : mtR m = txt m := by unfold mtR; rw [hv]; rfl
    rw [hv] at hg
    rw [hr]
    have ht := c20 m hv
    repeat' first
      | refine go_seq ?_
      | refine go_region ?_
      | (refine go_op rfl ?_; conv => whnf)
      | (refine go_nil ?_; conv => whnf)
      | (refine go_hit rfl rfl rfl ?_; conv => whnf)
      | (refine go_miss rfl rfl rfl ?_)
      | (refine go_undef rfl rfl rfl ?_)
      | (refine go_splitT rfl rfl rfl (fun h => ?_) (fun h => ?_) <;> conv => whnf)
      | (refine go_splitF rfl rfl rfl (fun h => ?_) (fun h => ?_) <;> conv => whnf)
      | (refine go_storeBox rfl rfl rfl rfl rfl rfl ?_; conv => whnf)
      | (refine go_dop rfl ?_; conv => whnf)
      | (refine go_dhit rfl rfl ?_; conv => whnf)
      | (refine go_dmiss rfl rfl ?_; conv => whnf)
      | (refine go_dundef rfl rfl ?_; conv => whnf)
      | (refine go_dend (by kernel_rfl) ?_; conv => whnf)
      | refine go_draw drawsOk ?_
      | (refine go_pickT rfl ?_; conv => whnf)
      | (refine go_pickF rfl ?_; conv => whnf)
      | (refine go_pick rfl (fun h => ?_) (fun h => ?_) <;> conv => whnf)
      | (refine go_call [] (hg) rfl rfl rfl rfl ?_; conv => whnf)
      | (refine go_call [] (ht) rfl rfl rfl rfl ?_; conv => whnf)
      | (refine go_dsplit2 rfl (fun h => ?_) (fun h => ?_) <;> conv => whnf)
      | (refine go_loadB ?_; conv => whnf)
      | (refine ⟨by kernel_rfl, ?_⟩; conv => whnf)
      | (refine go_ret ?_; conv => whnf)
      | refine go_block ?_
      | (refine go_skip ?_; conv => whnf)
      | (refine go_exit ?_; conv => whnf)
      | refine go_true rfl ?_
      | refine go_false rfl ?_
      | refine go_cond rfl (fun h => ?_) (fun h => ?_)
      | refine ⟨rfl, ?_⟩
      | (refine ⟨trivial, ?_⟩; conv => whnf)
      | (refine ⟨le_of_ble rfl, ?_⟩; conv => whnf)
      | fail
    all_goals exact ret_imm2 rfl rfl rfl rfl rfl rfl rfl rfl

theorem c9 (m : Message) : CallOk Tryd.prog 9 [.imm (.agg m.enc)] { res := [.imm (.str (ofL (mtR m))), .imm (.bool (msgOk m))] } := by
  refine callOk_of tyOk Tryd.func9 rfl rfl (le_of_ble rfl) (le_of_ble rfl) (mutOk_imm rfl _) ?_
  have hg := c21 m
  cases hv : msgOk m with
  | false =>
    have hr : mtR m = [] := by unfold mtR; rw [hv]; rfl
    rw [hv] at hg
    rw [hr]
    repeat' first
      | refine go_seq ?_
      | refine go_region ?_
      | (refine go_op rfl ?_; conv => whnf)
      | (refine go_nil ?_; conv => whnf)
      | (refine go_hit rfl rfl rfl ?_; conv => whnf)
      | (refine go_miss rfl rfl rfl ?_)
      | (refine go_undef rfl rfl rfl ?_)
      | (refine go_splitT rfl rfl rfl (fun h => ?_) (fun h => ?_) <;> conv => whnf)
      | (refine go_splitF rfl rfl rfl (fun h => ?_) (fun h => ?_) <;> conv => whnf)
      | (refine go_storeBox rfl rfl rfl rfl rfl rfl ?_; conv => whnf)
      | (refine go_dop rfl ?_; conv => whnf)
      | (refine go_dhit rfl rfl ?_; conv => whnf)
      | (refine go_dmiss rfl rfl ?_; conv => whnf)
      | (refine go_dundef rfl rfl ?_; conv => whnf)
      | (refine go_dend (by kernel_rfl) ?_; conv => whnf)
      | refine go_draw drawsOk ?_
      | (refine go_pickT rfl ?_; conv => whnf)
      | (refine go_pickF rfl ?_; conv => whnf)
      | (refine go_pick rfl (fun h => ?_) (fun h => ?_) <;> conv => whnf)
      | (refine go_call [] (hg) rfl rfl rfl rfl ?_; conv => whnf)
      | (refine go_dsplit2 rfl (fun h => ?_) (fun h => ?_) <;> conv => whnf)
      | (refine go_loadB ?_; conv => whnf)
      | (refine ⟨by kernel_rfl, ?_⟩; conv => whnf)
      | (refine go_ret ?_; conv => whnf)
      | refine go_block ?_
      | (refine go_skip ?_; conv => whnf)
      | (refine go_exit ?_; conv => whnf)
      | refine go_true rfl ?_
      | refine go_false rfl ?_
      | refine go_cond rfl (fun h => ?_) (fun h => ?_)
      | refine ⟨rfl, ?_⟩
      | (refine ⟨trivial, ?_⟩; conv => whnf)
      | (refine ⟨le_of_ble rfl, ?_⟩; conv => whnf)
      | fail
    all_goals exact ret_imm2 rfl rfl rfl rfl rfl rfl rfl rfl
  | true =>
    have hr : mtR m = txt m := by unfold mtR; rw [hv]; rfl
    rw [hv] at hg
    rw [hr]
    have ht := c22 m hv
    repeat' first
      | refine go_seq ?_
      | refine go_region ?_
      | (refine go_op rfl ?_; conv => whnf)
      | (refine go_nil ?_; conv => whnf)
      | (refine go_hit rfl rfl rfl ?_; conv => whnf)
      | (refine go_miss rfl rfl rfl ?_)
      | (refine go_undef rfl rfl rfl ?_)
      | (refine go_splitT rfl rfl rfl (fun h => ?_) (fun h => ?_) <;> conv => whnf)
      | (refine go_splitF rfl rfl rfl (fun h => ?_) (fun h => ?_) <;> conv => whnf)
      | (refine go_storeBox rfl rfl rfl rfl rfl rfl ?_; conv => whnf)
      | (refine go_dop rfl ?_; conv => whnf)
      | (refine go_dhit rfl rfl ?_; conv => whnf)
      | (refine go_dmiss rfl rfl ?_; conv => whnf)
      | (refine go_dundef rfl rfl ?_; conv => whnf)
      | (refine go_dend (by kernel_rfl) ?_; conv => whnf)
      | refine go_draw drawsOk ?_
      | (refine go_pickT rfl ?_; conv => whnf)
      | (refine go_pickF rfl ?_; conv => whnf)
      | (refine go_pick rfl (fun h => ?_) (fun h => ?_) <;> conv => whnf)
      | (refine go_call [] (hg) rfl rfl rfl rfl ?_; conv => whnf)
      | (refine go_call [] (ht) rfl rfl rfl rfl ?_; conv => whnf)
      | (refine go_dsplit2 rfl (fun h => ?_) (fun h => ?_) <;> conv => whnf)
      | (refine go_loadB ?_; conv => whnf)
      | (refine ⟨by kernel_rfl, ?_⟩; conv => whnf)
      | (refine go_ret ?_; conv => whnf)
      | refine go_block ?_
      | (refine go_skip ?_; conv => whnf)
      | (refine go_exit ?_; conv => whnf)
      | refine go_true rfl ?_
      | refine go_false rfl ?_
      | refine go_cond rfl (fun h => ?_) (fun h => ?_)
      | refine ⟨rfl, ?_⟩
      | (refine ⟨trivial, ?_⟩; conv => whnf)
      | (refine ⟨le_of_ble rfl, ?_⟩; conv => whnf)
      | fail
    all_goals exact ret_imm2 rfl rfl rfl rfl rfl rfl rfl rfl

theorem c3 (m : Message) (_ : m.ok) : CallOk Tryd.prog 3 [.imm (.agg m.enc)] { res := [.imm (.bool true)] } := by
  refine callOk_of tyOk Tryd.func3 rfl rfl (le_of_ble rfl) (le_of_ble rfl) (mutOk_imm rfl _) ?_
  repeat' first
    | refine go_seq ?_
    | refine go_region ?_
    | (refine go_op rfl ?_; conv => whnf)
    | (refine go_nil ?_; conv => whnf)
    | (refine go_hit rfl rfl rfl ?_; conv => whnf)
    | (refine go_miss rfl rfl rfl ?_)
    | (refine go_undef rfl rfl rfl ?_)
    | (refine go_splitT rfl rfl rfl (fun h => ?_) (fun h => ?_) <;> conv => whnf)
    | (refine go_splitF rfl rfl rfl (fun h => ?_) (fun h => ?_) <;> conv => whnf)
    | (refine go_storeBox rfl rfl rfl rfl rfl rfl ?_; conv => whnf)
    | (refine go_dop rfl ?_; conv => whnf)
    | (refine go_dhit rfl rfl ?_; conv => whnf)
    | (refine go_dmiss rfl rfl ?_; conv => whnf)
    | (refine go_dundef rfl rfl ?_; conv => whnf)
    | (refine go_dend (by kernel_rfl) ?_; conv => whnf)
    | refine go_draw drawsOk ?_
    | (refine go_pickT rfl ?_; conv => whnf)
    | (refine go_pickF rfl ?_; conv => whnf)
    | (refine go_pick rfl (fun h => ?_) (fun h => ?_) <;> conv => whnf)
    | (refine go_call [] (c6 m _) rfl rfl rfl rfl ?_; conv => whnf)
    | (refine go_call [] (c8 m) rfl rfl rfl rfl ?_; conv => whnf)
    | (refine go_call [] (c7 m) rfl rfl rfl rfl ?_; conv => whnf)
    | (refine go_call [] (c9 m) rfl rfl rfl rfl ?_; conv => whnf)
    | (refine go_dsplit2 rfl (fun h => ?_) (fun h => ?_) <;> conv => whnf)
    | (refine go_loadB ?_; conv => whnf)
    | (refine ⟨by kernel_rfl, ?_⟩; conv => whnf)
    | (refine go_ret ?_; conv => whnf)
    | refine go_block ?_
    | (refine go_skip ?_; conv => whnf)
    | (refine go_exit ?_; conv => whnf)
    | refine go_true rfl ?_
    | refine go_false rfl ?_
    | refine go_cond rfl (fun h => ?_) (fun h => ?_)
    | refine ⟨rfl, ?_⟩
    | (refine ⟨trivial, ?_⟩; conv => whnf)
    | (refine ⟨le_of_ble rfl, ?_⟩; conv => whnf)
    | fail
  all_goals first
    | exact ret_imm rfl rfl rfl rfl rfl rfl
    | (exfalso; simp [str_self] at h; done)
    | trace_state
end Go.Proofs.YtlkmbamenkjcmaaDoor

