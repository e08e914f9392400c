/- The walks of records: whether a record is valid. -/
import Derived.Test.YtnndgejlkljlaaaDoorG1
namespace Go.Proofs.YtnndgejlkljlaaaDoor
open Go Go.Am Go.Lg
set_option maxRecDepth 100000
set_option maxHeartbeats 4000000
attribute [local irreducible] amOps amC opCall opIndexAddr opPick retQ opMake opStore amDraw opAppend opLoad opNilCmp opIndex

def _root_.Go.Lg.Rec.enc (e : Rec) : List D := [.str (ofL e.cmd), .str (ofL e.reply)]
def _root_.Go.Lg.Rec.ok (e : Rec) : Prop := e.cmd.length ≤ maxLen ∧ e.reply.length ≤ maxLen
def _root_.Go.Lg.Rec.fit (e : Rec) : Prop := e.cmd.length ≤ 1048576 ∧ e.reply.length ≤ 1048576

theorem stands_iff {l : List UInt8} {i : Nat} {b c : UInt8} (hx : l[i]? = some b) (h : b = c) : c ∈ l := h ▸ List.mem_of_getElem? hx

theorem c24 (l : List UInt8) (c : UInt8) (hl : l.length ≤ 4611686018427387903) : CallOk Tryd.prog 24 [.imm (.str (ofL l)), .imm (.int .u8 (c.toNat : Int))] { res := [.imm (.bool (decide (c ∈ l)))] } := by
  refine callOk_of tyOk Tryd.func24 rfl rfl (le_of_ble rfl) (le_of_ble rfl) (mutOk_imm rfl _) ?_
  have hsz := ofL_size l
  repeat' first | refine go_seq ?_ | refine go_region ?_ | ((first | refine go_op rfl ?_ | refine go_nil ?_) <;> conv => whnf) | ((first | refine ⟨by kernel_rfl, ?_⟩ | refine go_ret ?_) <;> conv => whnf) | refine go_block ?_ | ((first | refine go_skip ?_ | refine go_exit ?_) <;> conv => whnf) | refine go_true rfl ?_ | refine go_false rfl ?_ | refine go_cond rfl (fun h => ?_) (fun h => ?_) | refine ⟨rfl, ?_⟩ | ((first | refine ⟨trivial, ?_⟩ | refine ⟨le_of_ble rfl, ?_⟩) <;> conv => whnf) | fail
  refine go_loop (α := Nat) (fun i => i ≤ l.length ∧ (l.take i).all (fun b => decide (b ≠ c)) = true) (fun i => l.length - i) (fun i => st Tryd.f24.ntmps [(0, .imm (.str (ofL l))), (1, .imm (.int .u8 (c.toNat : Int))), (5, .imm (.int .i64 (i : Nat)))] [] []) 0
    ⟨Nat.zero_le _, rfl⟩ (ref_st0 rfl ⟨rfl, rfl, rfl, trivial⟩ rfl) ?_
  rintro i ⟨hi, ha⟩
  cases hx : l[i]? with
  | none =>
    have hge := le_of_at hx
    have hno : decide (c ∈ l) = false := by
      rw [decide_eq_false_iff_not]
      intro hm
      have := List.all_eq_true.1 (all_end hge ha) c hm
      simp at this
    repeat' first | refine go_seq ?_ | refine go_region ?_ | ((first | refine go_op rfl ?_ | refine go_nil ?_) <;> conv => whnf) | ((first | refine ⟨by kernel_rfl, ?_⟩ | refine go_ret ?_) <;> conv => whnf) | refine go_block ?_ | ((first | refine go_skip ?_ | refine go_exit ?_) <;> conv => whnf) | refine go_true rfl ?_ | refine go_false rfl ?_ | refine go_cond rfl (fun h => ?_) (fun h => ?_) | refine ⟨rfl, ?_⟩ | ((first | refine ⟨trivial, ?_⟩ | refine ⟨le_of_ble rfl, ?_⟩) <;> conv => whnf) | fail
    all_goals first
      | (exfalso; simp at h; omega)
      | exact ret_imm rfl rfl rfl rfl (by rw [hno]) rfl
      | trace_state
  | some b =>
    have hlt := lt_of_at hx
    have hb := byteL hx
    have hbc : ((b.toNat : Int) = (c.toNat : Int)) ↔ b = c := ⟨fun h => UInt8.toNat_inj.1 (by omega), fun h => by rw [h]⟩
    repeat' first | refine go_seq ?_ | refine go_region ?_ | ((first | refine go_op rfl ?_ | refine go_nil ?_ | refine go_idxStr rfl rfl rfl (by omega) hb ?_) <;> conv => whnf) | ((first | refine ⟨by kernel_rfl, ?_⟩ | refine go_ret ?_) <;> conv => whnf) | refine go_block ?_ | ((first | refine go_skip ?_ | refine go_exit ?_) <;> conv => whnf) | refine go_true rfl ?_ | refine go_false rfl ?_ | refine go_cond rfl (fun h => ?_) (fun h => ?_) | refine ⟨rfl, ?_⟩ | ((first | refine ⟨trivial, ?_⟩ | refine ⟨le_of_ble rfl, ?_⟩) <;> conv => whnf) | fail
    all_goals first
      | (exfalso; simp at h; omega)
      | (have hm : decide (c ∈ l) = true := decide_eq_true (stands_iff hx (hbc.1 (by simpa using h)))
         exact ret_imm rfl rfl rfl rfl (by rw [hm]) rfl)
      | (exact go_next (i + 1) ⟨by omega, all_next hx ha (by simpa [hbc] using h)⟩ (by omega) (ref_st0 rfl ⟨rfl, rfl, next_i (by omega), trivial⟩ rfl))
      | trace_state

def cmdOk (l : List UInt8) : Bool := decide (1 ≤ l.length) && decide (l.length ≤ 160) && l.all pr && !decide ((64 : UInt8) ∈ l)

theorem c27 (l : List UInt8) : CallOk Tryd.prog 27 [.imm (.str (ofL l))] { res := [.imm (.bool (cmdOk l))] } := by
  refine callOk_of tyOk Tryd.func27 rfl rfl (le_of_ble rfl) (le_of_ble rfl) (mutOk_imm rfl _) ?_
  have hsz := ofL_size l
  have hw := c11 ((ofL l).size : Int) 1 160
  have hv : inR ((ofL l).size : Int) 1 160 = (decide (1 ≤ l.length) && decide (l.length ≤ 160)) := by
    rw [hsz]
    simp only [inR]
    congr 1
    · simp; omega
    · simp; omega
  rw [hv] at hw
  cases hb : (decide (1 ≤ l.length) && decide (l.length ≤ 160)) with
  | false =>
    rw [hb] at hw
    have hm : cmdOk l = false := by simp only [cmdOk, hb, Bool.false_and]
    repeat' first | refine go_seq ?_ | refine go_region ?_ | refine go_miss rfl rfl rfl ?_ | refine go_undef rfl rfl rfl ?_ | ((first | refine go_op rfl ?_ | refine go_nil ?_ | refine go_hit rfl rfl rfl ?_ | refine go_splitT rfl rfl rfl (fun h => ?_) (fun h => ?_) | refine go_splitF rfl rfl rfl (fun h => ?_) (fun h => ?_) | refine go_pickT rfl ?_ | refine go_pickF rfl ?_ | refine go_pick rfl (fun h => ?_) (fun h => ?_) | refine go_call [] (hw) rfl rfl rfl rfl ?_) <;> conv => whnf) | ((first | refine ⟨by kernel_rfl, ?_⟩ | refine go_ret ?_) <;> conv => whnf) | ((first | refine go_skip ?_) <;> conv => whnf) | refine ⟨rfl, ?_⟩ | ((first | refine ⟨trivial, ?_⟩ | refine ⟨le_of_ble rfl, ?_⟩) <;> conv => whnf) | fail
    all_goals exact ret_imm rfl rfl rfl rfl (by rw [hm]) rfl
  | true =>
    rw [hb] at hw
    have hle : l.length ≤ 160 := by simp at hb; exact hb.2
    have hp := c28 l (by omega)
    have hs := c33 l 64
    cases hq : l.all pr with
    | false =>
      rw [hq] at hp
      have hm : cmdOk l = false := by simp only [cmdOk, hb, hq, Bool.true_and, Bool.false_and]
      repeat' first | refine go_seq ?_ | refine go_region ?_ | refine go_miss rfl rfl rfl ?_ | refine go_undef rfl rfl rfl ?_ | ((first | refine go_op rfl ?_ | refine go_nil ?_ | refine go_hit rfl rfl rfl ?_ | refine go_splitT rfl rfl rfl (fun h => ?_) (fun h => ?_) | refine go_splitF rfl rfl rfl (fun h => ?_) (fun h => ?_) | refine go_pickT rfl ?_ | refine go_pickF rfl ?_ | refine go_pick rfl (fun h => ?_) (fun h => ?_) | refine go_call [] (hw) rfl rfl rfl rfl ?_ | refine go_call [] (hp) rfl rfl rfl rfl ?_) <;> conv => whnf) | ((first | refine ⟨by kernel_rfl, ?_⟩ | refine go_ret ?_) <;> conv => whnf) | ((first | refine go_skip ?_) <;> conv => whnf) | refine ⟨rfl, ?_⟩ | ((first | refine ⟨trivial, ?_⟩ | refine ⟨le_of_ble rfl, ?_⟩) <;> conv => whnf) | fail
      all_goals exact ret_imm rfl rfl rfl rfl (by rw [hm]) rfl
    | true =>
      rw [hq] at hp
      have hm : cmdOk l = !decide ((64 : UInt8) ∈ l) := by simp only [cmdOk, hb, hq, Bool.true_and]
      repeat' first | refine go_seq ?_ | refine go_region ?_ | refine go_miss rfl rfl rfl ?_ | refine go_undef rfl rfl rfl ?_ | ((first | refine go_op rfl ?_ | refine go_nil ?_ | refine go_hit rfl rfl rfl ?_ | refine go_splitT rfl rfl rfl (fun h => ?_) (fun h => ?_) | refine go_splitF rfl rfl rfl (fun h => ?_) (fun h => ?_) | refine go_pickT rfl ?_ | refine go_pickF rfl ?_ | refine go_pick rfl (fun h => ?_) (fun h => ?_) | refine go_call [] (hw) rfl rfl rfl rfl ?_ | refine go_call [] (hp) rfl rfl rfl rfl ?_ | refine go_call [] (hs) rfl rfl rfl rfl ?_) <;> conv => whnf) | ((first | refine ⟨by kernel_rfl, ?_⟩ | refine go_ret ?_) <;> conv => whnf) | ((first | refine go_skip ?_) <;> conv => whnf) | refine ⟨rfl, ?_⟩ | ((first | refine ⟨trivial, ?_⟩ | refine ⟨le_of_ble rfl, ?_⟩) <;> conv => whnf) | fail
      all_goals exact ret_imm rfl rfl rfl rfl (by rw [hm]) rfl

theorem good_eq (e : Rec) : good e = (cmdOk e.cmd && (decide (e.reply.length ≤ 200) && e.reply.all pr)) := by
  simp only [good, cmdOk, Bool.and_assoc]

theorem c21 (e : Rec) : CallOk Tryd.prog 21 [.imm (.agg e.enc)] { res := [.imm (.bool (good e))] } := by
  refine callOk_of tyOk Tryd.func21 rfl rfl (le_of_ble rfl) (le_of_ble rfl) (mutOk_imm rfl _) ?_
  have hsz := ofL_size e.reply
  have hc := c27 e.cmd
  have hg := good_eq e
  cases h1 : cmdOk e.cmd with
  | false =>
    rw [h1] at hc hg
    rw [hg]
    repeat' first | refine go_seq ?_ | refine go_region ?_ | refine go_miss rfl rfl rfl ?_ | refine go_undef rfl rfl rfl ?_ | ((first | refine go_op rfl ?_ | refine go_nil ?_ | refine go_hit rfl rfl rfl ?_ | refine go_splitT rfl rfl rfl (fun h => ?_) (fun h => ?_) | refine go_splitF rfl rfl rfl (fun h => ?_) (fun h => ?_) | refine go_pickT rfl ?_ | refine go_pickF rfl ?_ | refine go_pick rfl (fun h => ?_) (fun h => ?_) | refine go_call [] (hc) rfl rfl rfl rfl ?_) <;> conv => whnf) | ((first | refine go_loadB ?_ | refine ⟨by kernel_rfl, ?_⟩ | refine go_ret ?_) <;> conv => whnf) | ((first | refine go_skip ?_) <;> conv => whnf) | refine ⟨rfl, ?_⟩ | ((first | refine ⟨trivial, ?_⟩ | refine ⟨le_of_ble rfl, ?_⟩) <;> conv => whnf) | fail
    all_goals exact ret_imm rfl rfl rfl rfl rfl rfl
  | true =>
    rw [h1] at hc hg
    by_cases h2 : e.reply.length ≤ 200
    · have hp := c28 e.reply (by omega)
      have hm : good e = e.reply.all pr := by rw [hg]; simp [h2]
      rw [hm]
      repeat' first | refine go_seq ?_ | refine go_region ?_ | refine go_miss rfl rfl rfl ?_ | refine go_undef rfl rfl rfl ?_ | ((first | refine go_op rfl ?_ | refine go_nil ?_ | refine go_hit rfl rfl rfl ?_ | refine go_splitT rfl rfl rfl (fun h => ?_) (fun h => ?_) | refine go_splitF rfl rfl rfl (fun h => ?_) (fun h => ?_) | refine go_pickT rfl ?_ | refine go_pickF rfl ?_ | refine go_pick rfl (fun h => ?_) (fun h => ?_) | refine go_call [] (hc) rfl rfl rfl rfl ?_ | refine go_call [] (hp) rfl rfl rfl rfl ?_) <;> conv => whnf) | ((first | refine go_loadB ?_ | refine ⟨by kernel_rfl, ?_⟩ | refine go_ret ?_) <;> conv => whnf) | ((first | refine go_skip ?_) <;> conv => whnf) | refine ⟨rfl, ?_⟩ | ((first | refine ⟨trivial, ?_⟩ | refine ⟨le_of_ble rfl, ?_⟩) <;> conv => whnf) | fail
      all_goals first
        | (exfalso; simp at h; omega)
        | exact ret_imm rfl rfl rfl rfl rfl rfl
        | trace_state
    · have hm : good e = false := by rw [hg]; simp [h2]
      rw [hm]
      repeat' first | refine go_seq ?_ | refine go_region ?_ | refine go_miss rfl rfl rfl ?_ | refine go_undef rfl rfl rfl ?_ | ((first | refine go_op rfl ?_ | refine go_nil ?_ | refine go_hit rfl rfl rfl ?_ | refine go_splitT rfl rfl rfl (fun h => ?_) (fun h => ?_) | refine go_splitF rfl rfl rfl (fun h => ?_) (fun h => ?_) | refine go_pickT rfl ?_ | refine go_pickF rfl ?_ | refine go_pick rfl (fun h => ?_) (fun h => ?_) | refine go_call [] (hc) rfl rfl rfl rfl ?_) <;> conv => whnf) | ((first | refine go_loadB ?_ | refine ⟨by kernel_rfl, ?_⟩ | refine go_ret ?_) <;> conv => whnf) | ((first | refine go_skip ?_) <;> conv => whnf) | refine ⟨rfl, ?_⟩ | ((first | refine ⟨trivial, ?_⟩ | refine ⟨le_of_ble rfl, ?_⟩) <;> conv => whnf) | fail
      all_goals first
        | (exfalso; simp at h; omega)
        | exact ret_imm rfl rfl rfl rfl rfl rfl
        | trace_state

theorem c18 (e : Rec) (hf : e.fit) : CallOk Tryd.prog 18 [.imm (.agg e.enc)] { res := [.imm (.bool (good e))] } := by
  refine callOk_of tyOk Tryd.func18 rfl rfl (le_of_ble rfl) (le_of_ble rfl) (mutOk_imm rfl _) ?_
  obtain ⟨hf1, hf2⟩ := hf
  have h1 := c23 e.cmd 160 (by omega)
  have h2 := c24 e.cmd 64 (by omega)
  have h3 := c23 e.reply 200 (by omega)
  have he : (!(ofL e.cmd == (⟨#[]⟩ : ByteArray))) = decide (1 ≤ e.cmd.length) := by
    rw [show (⟨#[]⟩ : ByteArray) = ofL [] from rfl, beqL]
    cases hc : e.cmd with
    | nil => rfl
    | cons a l => simp
  have hg : good e = (decide (1 ≤ e.cmd.length) && ((e.cmd.all pr && decide ((e.cmd.length : Int) ≤ 160)) && (!decide ((64 : UInt8) ∈ e.cmd) && (e.reply.all pr && decide ((e.reply.length : Int) ≤ 200))))) := by
    have a1 : decide ((e.cmd.length : Int) ≤ 160) = decide (e.cmd.length ≤ 160) := by simp; omega
    have a2 : decide ((e.reply.length : Int) ≤ 200) = decide (e.reply.length ≤ 200) := by simp; omega
    rw [a1, a2]
    simp only [good]
    cases decide (1 ≤ e.cmd.length) <;> cases decide (e.cmd.length ≤ 160) <;> cases e.cmd.all pr <;> cases decide ((64 : UInt8) ∈ e.cmd) <;> cases decide (e.reply.length ≤ 200) <;> cases e.reply.all pr <;> rfl
  rw [← he] at hg
  generalize (e.cmd.all pr && decide ((e.cmd.length : Int) ≤ 160)) = p1 at h1 hg
  generalize decide ((64 : UInt8) ∈ e.cmd) = p2 at h2 hg
  generalize (e.reply.all pr && decide ((e.reply.length : Int) ≤ 200)) = p3 at h3 hg
  rw [hg]
  cases h0 : (ofL e.cmd == (⟨#[]⟩ : ByteArray)) <;> cases p1 <;> cases p2 <;>
  (
  repeat' first | refine go_seq ?_ | refine go_region ?_ | refine go_miss rfl rfl rfl ?_ | refine go_undef rfl rfl rfl ?_ | ((first | refine go_op rfl ?_ | refine go_nil ?_ | refine go_hit rfl rfl rfl ?_ | refine go_splitT rfl rfl rfl (fun h => ?_) (fun h => ?_) | refine go_splitF rfl rfl rfl (fun h => ?_) (fun h => ?_) | refine go_pickT rfl ?_ | refine go_pickF rfl ?_ | refine go_pick rfl (fun h => ?_) (fun h => ?_) | refine go_call [] (h1) rfl rfl rfl rfl ?_ | refine go_call [] (h2) rfl rfl rfl rfl ?_ | refine go_call [] (h3) rfl rfl rfl rfl ?_) <;> conv => whnf) | ((first | refine go_loadB ?_ | refine ⟨by kernel_rfl, ?_⟩ | refine go_ret ?_) <;> conv => whnf) | ((first | refine go_skip ?_) <;> conv => whnf) | refine ⟨rfl, ?_⟩ | ((first | refine ⟨trivial, ?_⟩ | refine ⟨le_of_ble rfl, ?_⟩) <;> conv => whnf) | fail
  all_goals first
    | exact ret_imm rfl rfl rfl rfl rfl rfl
    | (exfalso; simp [h0] at h; done)
    | trace_state
  )
end Go.Proofs.YtnndgejlkljlaaaDoor

