/- Copies of lines and networks: the program's own memory, told by its blocks. -/
import Derived.Test.YtfjphbjbobojbaaX3
import Derived.Test.YtfjphbjbobojbaaV1
namespace Go.Proofs.Ytfjphbjbobojbaa
open Go Go.Am
set_option maxRecDepth 100000
set_option maxHeartbeats 4000000
attribute [local irreducible] amOps amC opCall opIndexAddr opPick retQ opMake opStore amDraw opAppend opLoad opNilCmp opIndex opSlice xQ

theorem o101 (xs : List Int) (hl : xs.length ≤ 1048576) : CallOk Try.prog 101 [.imm (.list (xs.map intRow))] { res := [.arr 3 1 (xs.map intRow)] } := by
  refine callOk_of tyOk Try.func101 rfl rfl (le_of_ble rfl) (le_of_ble rfl) (mutOk_imm rfl _) ?_
  have hbd : (List.replicate 0 (ty3.zero)).length + (xs.map intRow).length ≤ 1073741824 := by simp; omega
  repeat' first | refine go_seq ?_ | refine go_region ?_ | ((first | refine go_op rfl ?_ | refine go_nil ?_ | refine go_nilImm rfl rfl (fun b hb => ?_) | refine go_appImm rfl rfl rfl rfl rfl rfl rfl rfl rfl (int_one' _) rfl rfl hbd ?_) <;> conv => whnf) | ((first | refine ⟨by kernel_rfl, ?_⟩ | refine go_ret ?_) <;> conv => whnf) | ((first | refine go_skip ?_) <;> conv => whnf) | refine go_true rfl ?_ | refine go_false rfl ?_ | refine go_cond rfl (fun h => ?_) (fun h => ?_) | refine ⟨rfl, ?_⟩ | ((first | refine ⟨trivial, ?_⟩ | refine ⟨le_of_ble rfl, ?_⟩) <;> conv => whnf) | fail
  · have hnil : xs.map intRow = [] := by
      by_cases e : xs.map intRow = []
      · exact e
      · rw [hb e] at h; cases h
    exact ret_arr rfl rfl rfl rfl rfl (by rw [hnil]; rfl) (int_gr _)
  · exact ret_arr rfl rfl rfl rfl rfl (by simp only [List.replicate_zero, List.nil_append, Nat.zero_add, List.drop_zero, List.take_length]) (int_gr _)

theorem o96 (xs : List ByteArray) (hl : xs.length ≤ 1048576) : CallOk Try.prog 96 [.imm (.list (xs.map strRow))] { res := [.arr 9 1 (xs.map strRow)] } := by
  refine callOk_of tyOk Try.func96 rfl rfl (le_of_ble rfl) (le_of_ble rfl) (mutOk_imm rfl _) ?_
  have hbd : (List.replicate 0 (ty9.zero)).length + (xs.map strRow).length ≤ 1073741824 := by simp; omega
  repeat' first | refine go_seq ?_ | refine go_region ?_ | ((first | refine go_op rfl ?_ | refine go_nil ?_ | refine go_nilImm rfl rfl (fun b hb => ?_) | refine go_appImm rfl rfl rfl rfl rfl rfl rfl rfl rfl (str_one' _) rfl rfl hbd ?_) <;> conv => whnf) | ((first | refine ⟨by kernel_rfl, ?_⟩ | refine go_ret ?_) <;> conv => whnf) | ((first | refine go_skip ?_) <;> conv => whnf) | refine go_true rfl ?_ | refine go_false rfl ?_ | refine go_cond rfl (fun h => ?_) (fun h => ?_) | refine ⟨rfl, ?_⟩ | ((first | refine ⟨trivial, ?_⟩ | refine ⟨le_of_ble rfl, ?_⟩) <;> conv => whnf) | fail
  · have hnil : xs.map strRow = [] := by
      by_cases e : xs.map strRow = []
      · exact e
      · rw [hb e] at h; cases h
    exact ret_arr rfl rfl rfl rfl rfl (by rw [hnil]; rfl) (str_gr _)
  · exact ret_arr rfl rfl rfl rfl rfl (by simp only [List.replicate_zero, List.nil_append, Nat.zero_add, List.drop_zero, List.take_length]) (str_gr _)


/-- A line's copy: its two arrays are its own. -/
theorem o97 (l : Line) (hf : l.fit) : CallOk Try.prog 97 [.imm (.agg l.enc)] { res := [.imm (.str l.name), .arr 3 1 (l.stops.map intRow), .arr 3 1 (l.runs.map intRow)], agg := true } := by
  refine callOk_of tyOk Try.func97 rfl rfl (le_of_ble rfl) (le_of_ble rfl) (mutOk_imm rfl _) ?_
  have h1 := o101 l.stops hf.2.1
  have h2 := o101 l.runs hf.2.2
  repeat' first | refine go_seq ?_ | refine go_region ?_ | refine go_draw drawsOk ?_ | ((first | refine go_op rfl ?_ | refine go_nil ?_ | refine go_storeBox rfl rfl rfl rfl rfl rfl ?_ | refine go_dop rfl ?_ | refine go_dend (by kernel_rfl) ?_ | refine go_call [] (h1) rfl rfl rfl rfl ?_ | refine go_call [] (h2) rfl rfl rfl rfl ?_ | refine Or.inr ?_) <;> conv => whnf) | ((first | refine Or.inl ?_ | refine go_loadB ?_ | refine ⟨by kernel_rfl, ?_⟩ | refine go_ret ?_) <;> conv => whnf) | ((first | refine go_skip ?_) <;> conv => whnf) | refine ⟨rfl, ?_⟩ | ((first | refine ⟨trivial, ?_⟩ | refine ⟨le_of_ble rfl, ?_⟩) <;> conv => whnf) | fail
  · refine ret_agg rfl rfl rfl ⟨⟨rfl, fun _ => rfl⟩, ret1_arr rfl ?_ (int_gr _) (by show _ ∉ ([] : List Nat); simp), ret1_arr rfl ?_ (int_gr _) (by show _ ∉ ([] : List Nat); simp), trivial⟩ ?_ List.nodup_nil trivial
    · rw [List.drop_zero, List.take_length]
    · rw [List.drop_zero, List.take_length]
    · exact (by decide : ([rid 2 7 0, rid 2 10 0] : List Nat).Nodup)
end Go.Proofs.Ytfjphbjbobojbaa

