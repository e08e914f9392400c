/- The reference's lists of zones, and the prices. -/
import Derived.Test.YtphoamcbapfbkaaF2
namespace Go.Proofs.Ytphoamcbapfbkaa
open Go Go.Am
set_option maxRecDepth 100000
set_option maxHeartbeats 4000000
attribute [local irreducible] amOps amC opCall opIndexAddr opPick retQ opMake opStore amDraw opAppend opLoad opNilCmp opIndex opSlice

theorem tw_len (l : List Int) (n : Int) {k : Nat} (h1 : ∀ j x, j < k → l[j]? = some x → x < n) (h2 : ∀ x, l[k]? = some x → ¬ x < n) (hk : k ≤ l.length) : l.takeWhile (· < n) = l.take k ∧ l.dropWhile (· < n) = l.drop k := by
  induction l generalizing k with
  | nil => simp
  | cons a r ih =>
    cases k with
    | zero =>
      have := h2 a rfl
      simp [List.takeWhile, List.dropWhile, this]
    | succ k =>
      have ha := h1 0 a (by omega) rfl
      obtain ⟨e1, e2⟩ := ih (k := k) (fun j x hj hx => h1 (j + 1) x (by omega) (by simpa using hx)) (fun x hx => h2 x (by simpa using hx)) (by simpa using hk)
      simp only [List.takeWhile_cons, List.dropWhile_cons, ha, decide_true, if_true, List.take_succ_cons, List.drop_succ_cons]
      exact ⟨by rw [e1], e2⟩

def up (l : List Int) (n : Int) (k : Nat) : Prop := k ≤ l.length ∧ ∀ j x, j < k → l[j]? = some x → x < n
/-- A list in order: what lies behind a member is greater. -/
def asc (l : List Int) : Prop := l.Pairwise (· < ·)
theorem put_in {l : List Int} {n : Int} {k : Nat} (hx : l[k]? = some n) : putL l n = l := by
  unfold putL
  rw [if_pos]
  simpa using List.mem_of_getElem? hx
theorem put_out {l : List Int} {n : Int} {k : Nat} (hs : asc l) (hu : up l n k) (hx : ∀ x, l[k]? = some x → n < x) : putL l n = l.take k ++ n :: l.drop k := by
  obtain ⟨e1, e2⟩ := tw_len l n hu.2 (fun x h => by have := hx x h; omega) hu.1
  unfold putL
  rw [if_neg, e1, e2]
  intro hc
  have hm : n ∈ l := by simpa using hc
  obtain ⟨j, hj⟩ := List.getElem?_of_mem hm
  by_cases hjk : j < k
  · have := hu.2 j n hjk hj; omega
  · have hlt := lt_of_at hj
    have hk : k < l.length := by omega
    have h1 := hx _ (List.getElem?_eq_getElem hk)
    by_cases he : j = k
    · subst he
      rw [List.getElem?_eq_getElem hk] at hj
      injection hj with hj
      omega
    · have := List.pairwise_iff_getElem.1 hs k j hk hlt (by omega)
      obtain ⟨hlt', hje⟩ := List.getElem?_eq_some_iff.1 hj
      omega
theorem int_rows (xs : List Int) : ∀ r ∈ xs.map intRow, r.length = 1 ∧ r.all D.one = true := by
  intro r hr
  obtain ⟨v, _, rfl⟩ := List.mem_map.1 hr
  exact ⟨rfl, rfl⟩

theorem c82 (l : List Int) (hs : asc l) (n : Int) (hl : l.length ≤ 1048576) : CallOk Try.prog 82 [.imm (.list (l.map intRow)), .imm (.int .i64 n)] { res := [.imm (.list ((putL l n).map intRow))], sep := false } := by
  refine callOk_of tyOk Try.func82 rfl rfl (le_of_ble rfl) (le_of_ble rfl) (mutOk_imm rfl _) ?_
  have hll : ((l.map intRow).length : Int) = l.length := by rw [List.length_map]
  repeat' first | refine go_seq ?_ | refine go_region ?_ | refine go_miss rfl rfl rfl ?_ | refine go_undef rfl rfl rfl ?_ | refine go_draw drawsOk ?_ | ((first | refine go_op rfl ?_ | refine go_nil ?_ | refine go_hit rfl rfl rfl ?_ | refine go_splitT rfl rfl rfl (fun h => ?_) (fun h => ?_) | refine go_splitF rfl rfl rfl (fun h => ?_) (fun h => ?_) | refine go_dop rfl ?_ | refine go_dhit rfl rfl ?_ | refine go_dmiss rfl rfl ?_ | refine go_dundef rfl rfl ?_ | refine go_dend (by kernel_rfl) ?_ | refine go_pickT rfl ?_ | refine go_pickF rfl ?_ | refine go_pick rfl (fun h => ?_) (fun h => ?_)) <;> conv => whnf) | ((first | refine go_dsplit2 rfl (fun h => ?_) (fun h => ?_) | refine go_loadB ?_ | refine ⟨by kernel_rfl, ?_⟩ | refine go_ret ?_) <;> conv => whnf) | refine go_block ?_ | ((first | refine go_skip ?_ | refine go_exit ?_) <;> conv => whnf) | refine go_true rfl ?_ | refine go_false rfl ?_ | refine go_cond rfl (fun h => ?_) (fun h => ?_) | refine ⟨rfl, ?_⟩ | ((first | refine ⟨trivial, ?_⟩ | refine ⟨le_of_ble rfl, ?_⟩) <;> conv => whnf) | fail
  refine go_loop (α := Nat) (up l n) (fun i => l.length - i)
    (fun i => st Try.f82.ntmps [(0, .imm (.list (l.map intRow))), (1, .imm (.int .i64 n)), (5, .imm (.int .i64 (i : Nat)))] [] []) 0 ⟨Nat.zero_le _, fun j x hj => by omega⟩ (ref_st0 rfl ⟨rfl, rfl, rfl, trivial⟩ rfl) ?_
  rintro k ⟨hk, hlo⟩
  have hone := int_one [n]
  have hnew : putL l n = l.take k ++ n :: l.drop k → (([] ++ (l.map intRow).take k) ++ [n].map intRow) ++ (l.map intRow).drop k = (putL l n).map intRow := fun e => by
    rw [e, List.map_append, List.map_cons, List.nil_append, List.append_assoc, ← List.map_take, ← List.map_drop]; rfl
  cases hx : l[k]? with
  | none =>
    have hge := le_of_at hx
    have hkl : k = l.length := by omega
    have hp := hnew (put_out hs ⟨hk, hlo⟩ (fun x h => by rw [hx] at h; cases h))
    repeat' first | refine go_seq ?_ | refine go_region ?_ | refine go_miss rfl rfl rfl ?_ | refine go_undef rfl rfl rfl ?_ | refine go_draw drawsOk ?_ | ((first | refine go_op rfl ?_ | refine go_nil ?_ | refine go_hit rfl rfl rfl ?_ | refine go_splitT rfl rfl rfl (fun h => ?_) (fun h => ?_) | refine go_splitF rfl rfl rfl (fun h => ?_) (fun h => ?_) | refine go_dop rfl ?_ | refine go_dhit rfl rfl ?_ | refine go_dmiss rfl rfl ?_ | refine go_dundef rfl rfl ?_ | refine go_dend (by kernel_rfl) ?_ | refine go_pickT rfl ?_ | refine go_pickF rfl ?_ | refine go_pick rfl (fun h => ?_) (fun h => ?_) | refine go_sliceToI (k := k) rfl rfl rfl (fun r hr => (int_rows l r hr).1) rfl (by rw [List.length_map]; omega) ?_ | refine go_sliceFromI (k := k) rfl rfl rfl (fun r hr => (int_rows l r hr).1) rfl (by rw [List.length_map]; omega) ?_ | refine go_appImm (rows := []) (rows2 := (l.map intRow).take k) rfl rfl rfl rfl rfl rfl rfl rfl rfl (fun r hr => int_rows l r (List.mem_of_mem_take hr)) rfl rfl (by simp only [List.length_append, List.length_take, List.length_drop, List.length_map, List.length_cons, List.length_nil, List.nil_append]; omega) ?_ | refine go_append (rows2 := [n].map intRow) rfl rfl rfl rfl rfl rfl rfl rfl rfl rfl rfl rfl hone rfl (by simp only [List.length_append, List.length_take, List.length_drop, List.length_map, List.length_cons, List.length_nil, List.nil_append]; omega) rfl (by simp only [List.length_append, List.length_take, List.length_drop, List.length_map, List.length_cons, List.length_nil, List.nil_append]; omega) ?_ | refine go_appImm (rows2 := (l.map intRow).drop k) rfl rfl rfl rfl rfl rfl rfl rfl rfl (fun r hr => int_rows l r (List.mem_of_mem_drop hr)) rfl (by simp only [List.length_append, List.length_take, List.length_drop, List.length_map, List.length_cons, List.length_nil, List.nil_append]; omega) (by simp only [List.length_append, List.length_take, List.length_drop, List.length_map, List.length_cons, List.length_nil, List.nil_append]; omega) ?_) <;> conv => whnf) | ((first | refine go_dsplit2 rfl (fun h => ?_) (fun h => ?_) | refine go_loadB ?_ | refine ⟨by kernel_rfl, ?_⟩ | refine go_ret ?_) <;> conv => whnf) | refine go_block ?_ | ((first | refine go_skip ?_ | refine go_exit ?_) <;> conv => whnf) | refine go_true rfl ?_ | refine go_false rfl ?_ | refine go_cond rfl (fun h => ?_) (fun h => ?_) | refine ⟨rfl, ?_⟩ | ((first | refine ⟨trivial, ?_⟩ | refine ⟨le_of_ble rfl, ?_⟩) <;> conv => whnf) | fail
    all_goals first
      | (exfalso; simp at h; omega)
      | (refine ret_ownN rfl rfl rfl rfl rfl ?_
         rw [List.drop_zero, hp, List.take_of_length_le]
         rw [← hp]
         simp only [List.length_append, List.length_take, List.length_drop, List.length_map, List.length_cons, List.length_nil, List.nil_append]; omega)
      | (exfalso; simp_all; done)
      | trace_state
  | some x =>
    have hlt := lt_of_at hx
    have hr := row_at intRow hx
    by_cases hc1 : x < n
    · skip
      repeat' first | refine go_seq ?_ | refine go_region ?_ | refine go_miss rfl rfl rfl ?_ | refine go_undef rfl rfl rfl ?_ | refine go_draw drawsOk ?_ | ((first | refine go_op rfl ?_ | refine go_nil ?_ | refine go_hit rfl rfl rfl ?_ | refine go_splitT rfl rfl rfl (fun h => ?_) (fun h => ?_) | refine go_splitF rfl rfl rfl (fun h => ?_) (fun h => ?_) | refine go_dop rfl ?_ | refine go_dhit rfl rfl ?_ | refine go_dmiss rfl rfl ?_ | refine go_dundef rfl rfl ?_ | refine go_dend (by kernel_rfl) ?_ | refine go_pickT rfl ?_ | refine go_pickF rfl ?_ | refine go_pick rfl (fun h => ?_) (fun h => ?_) | refine go_idx rfl rfl rfl rfl (by omega) hr rfl ?_ | refine go_sliceToI (k := k) rfl rfl rfl (fun r hr => (int_rows l r hr).1) rfl (by rw [List.length_map]; omega) ?_ | refine go_sliceFromI (k := k) rfl rfl rfl (fun r hr => (int_rows l r hr).1) rfl (by rw [List.length_map]; omega) ?_ | refine go_appImm (rows := []) (rows2 := (l.map intRow).take k) rfl rfl rfl rfl rfl rfl rfl rfl rfl (fun r hr => int_rows l r (List.mem_of_mem_take hr)) rfl rfl (by simp only [List.length_append, List.length_take, List.length_drop, List.length_map, List.length_cons, List.length_nil, List.nil_append]; omega) ?_ | refine go_append (rows2 := [n].map intRow) rfl rfl rfl rfl rfl rfl rfl rfl rfl rfl rfl rfl hone rfl (by simp only [List.length_append, List.length_take, List.length_drop, List.length_map, List.length_cons, List.length_nil, List.nil_append]; omega) rfl (by simp only [List.length_append, List.length_take, List.length_drop, List.length_map, List.length_cons, List.length_nil, List.nil_append]; omega) ?_ | refine go_appImm (rows2 := (l.map intRow).drop k) rfl rfl rfl rfl rfl rfl rfl rfl rfl (fun r hr => int_rows l r (List.mem_of_mem_drop hr)) rfl (by simp only [List.length_append, List.length_take, List.length_drop, List.length_map, List.length_cons, List.length_nil, List.nil_append]; omega) (by simp only [List.length_append, List.length_take, List.length_drop, List.length_map, List.length_cons, List.length_nil, List.nil_append]; omega) ?_) <;> conv => whnf) | ((first | refine go_dsplit2 rfl (fun h => ?_) (fun h => ?_) | refine go_loadB ?_ | refine ⟨by kernel_rfl, ?_⟩ | refine go_ret ?_) <;> conv => whnf) | refine go_block ?_ | ((first | refine go_skip ?_ | refine go_exit ?_) <;> conv => whnf) | refine go_true rfl ?_ | refine go_false rfl ?_ | refine go_cond rfl (fun h => ?_) (fun h => ?_) | refine ⟨rfl, ?_⟩ | ((first | refine ⟨trivial, ?_⟩ | refine ⟨le_of_ble rfl, ?_⟩) <;> conv => whnf) | fail
      all_goals first
        | (refine go_next (k + 1) ⟨by omega, ?_⟩ (by omega) (ref_st0 rfl ⟨rfl, rfl, next_i (by omega), trivial⟩ rfl)
           intro j y hj hy
           by_cases he : j = k
           · subst he; rw [hx] at hy; injection hy with hy; omega
           · exact hlo j y (by omega) hy
           done)
        | (exfalso; simp at h; omega)
        | (exfalso; simp_all; done)
        | (exfalso; simp_all; omega)
        | trace_state
    · by_cases hc2 : x = n
      · subst hc2
        have hp := put_in hx
        repeat' first | refine go_seq ?_ | refine go_region ?_ | refine go_miss rfl rfl rfl ?_ | refine go_undef rfl rfl rfl ?_ | refine go_draw drawsOk ?_ | ((first | refine go_op rfl ?_ | refine go_nil ?_ | refine go_hit rfl rfl rfl ?_ | refine go_splitT rfl rfl rfl (fun h => ?_) (fun h => ?_) | refine go_splitF rfl rfl rfl (fun h => ?_) (fun h => ?_) | refine go_dop rfl ?_ | refine go_dhit rfl rfl ?_ | refine go_dmiss rfl rfl ?_ | refine go_dundef rfl rfl ?_ | refine go_dend (by kernel_rfl) ?_ | refine go_pickT rfl ?_ | refine go_pickF rfl ?_ | refine go_pick rfl (fun h => ?_) (fun h => ?_) | refine go_idx rfl rfl rfl rfl (by omega) hr rfl ?_ | refine go_sliceToI (k := k) rfl rfl rfl (fun r hr => (int_rows l r hr).1) rfl (by rw [List.length_map]; omega) ?_ | refine go_sliceFromI (k := k) rfl rfl rfl (fun r hr => (int_rows l r hr).1) rfl (by rw [List.length_map]; omega) ?_ | refine go_appImm (rows := []) (rows2 := (l.map intRow).take k) rfl rfl rfl rfl rfl rfl rfl rfl rfl (fun r hr => int_rows l r (List.mem_of_mem_take hr)) rfl rfl (by simp only [List.length_append, List.length_take, List.length_drop, List.length_map, List.length_cons, List.length_nil, List.nil_append]; omega) ?_ | refine go_append (rows2 := [n].map intRow) rfl rfl rfl rfl rfl rfl rfl rfl rfl rfl rfl rfl hone rfl (by simp only [List.length_append, List.length_take, List.length_drop, List.length_map, List.length_cons, List.length_nil, List.nil_append]; omega) rfl (by simp only [List.length_append, List.length_take, List.length_drop, List.length_map, List.length_cons, List.length_nil, List.nil_append]; omega) ?_ | refine go_appImm (rows2 := (l.map intRow).drop k) rfl rfl rfl rfl rfl rfl rfl rfl rfl (fun r hr => int_rows l r (List.mem_of_mem_drop hr)) rfl (by simp only [List.length_append, List.length_take, List.length_drop, List.length_map, List.length_cons, List.length_nil, List.nil_append]; omega) (by simp only [List.length_append, List.length_take, List.length_drop, List.length_map, List.length_cons, List.length_nil, List.nil_append]; omega) ?_) <;> conv => whnf) | ((first | refine go_dsplit2 rfl (fun h => ?_) (fun h => ?_) | refine go_loadB ?_ | refine ⟨by kernel_rfl, ?_⟩ | refine go_ret ?_) <;> conv => whnf) | refine go_block ?_ | ((first | refine go_skip ?_ | refine go_exit ?_) <;> conv => whnf) | refine go_true rfl ?_ | refine go_false rfl ?_ | refine go_cond rfl (fun h => ?_) (fun h => ?_) | refine ⟨rfl, ?_⟩ | ((first | refine ⟨trivial, ?_⟩ | refine ⟨le_of_ble rfl, ?_⟩) <;> conv => whnf) | fail
        all_goals first
          | exact ret_immN rfl rfl rfl rfl (by rw [hp])
          | (exfalso; have h' := of_decide_eq_false h; omega)
          | (exfalso; have h' := of_decide_eq_true h; omega)
          | (exfalso; rename_i hq; have h' := of_decide_eq_true hq; omega)
          | (exfalso; rename_i hq; have h' := of_decide_eq_false hq; omega)
          | (exfalso; rename_i hq _; have h' := of_decide_eq_true hq; omega)
          | (exfalso; rename_i hq _; have h' := of_decide_eq_false hq; omega)
          | (exfalso; simp at h; omega)
          | (exfalso; simp at h; done)
          | trace_state
      · have hp := hnew (put_out hs ⟨hk, hlo⟩ (fun y h => by rw [hx] at h; injection h with h; omega))
        repeat' first | refine go_seq ?_ | refine go_region ?_ | refine go_miss rfl rfl rfl ?_ | refine go_undef rfl rfl rfl ?_ | refine go_draw drawsOk ?_ | ((first | refine go_op rfl ?_ | refine go_nil ?_ | refine go_hit rfl rfl rfl ?_ | refine go_splitT rfl rfl rfl (fun h => ?_) (fun h => ?_) | refine go_splitF rfl rfl rfl (fun h => ?_) (fun h => ?_) | refine go_dop rfl ?_ | refine go_dhit rfl rfl ?_ | refine go_dmiss rfl rfl ?_ | refine go_dundef rfl rfl ?_ | refine go_dend (by kernel_rfl) ?_ | refine go_pickT rfl ?_ | refine go_pickF rfl ?_ | refine go_pick rfl (fun h => ?_) (fun h => ?_) | refine go_idx rfl rfl rfl rfl (by omega) hr rfl ?_ | refine go_sliceToI (k := k) rfl rfl rfl (fun r hr => (int_rows l r hr).1) rfl (by rw [List.length_map]; omega) ?_ | refine go_sliceFromI (k := k) rfl rfl rfl (fun r hr => (int_rows l r hr).1) rfl (by rw [List.length_map]; omega) ?_ | refine go_appImm (rows := []) (rows2 := (l.map intRow).take k) rfl rfl rfl rfl rfl rfl rfl rfl rfl (fun r hr => int_rows l r (List.mem_of_mem_take hr)) rfl rfl (by simp only [List.length_append, List.length_take, List.length_drop, List.length_map, List.length_cons, List.length_nil, List.nil_append]; omega) ?_ | refine go_append (rows2 := [n].map intRow) rfl rfl rfl rfl rfl rfl rfl rfl rfl rfl rfl rfl hone rfl (by simp only [List.length_append, List.length_take, List.length_drop, List.length_map, List.length_cons, List.length_nil, List.nil_append]; omega) rfl (by simp only [List.length_append, List.length_take, List.length_drop, List.length_map, List.length_cons, List.length_nil, List.nil_append]; omega) ?_ | refine go_appImm (rows2 := (l.map intRow).drop k) rfl rfl rfl rfl rfl rfl rfl rfl rfl (fun r hr => int_rows l r (List.mem_of_mem_drop hr)) rfl (by simp only [List.length_append, List.length_take, List.length_drop, List.length_map, List.length_cons, List.length_nil, List.nil_append]; omega) (by simp only [List.length_append, List.length_take, List.length_drop, List.length_map, List.length_cons, List.length_nil, List.nil_append]; omega) ?_) <;> conv => whnf) | ((first | refine go_dsplit2 rfl (fun h => ?_) (fun h => ?_) | refine go_loadB ?_ | refine ⟨by kernel_rfl, ?_⟩ | refine go_ret ?_) <;> conv => whnf) | refine go_block ?_ | ((first | refine go_skip ?_ | refine go_exit ?_) <;> conv => whnf) | refine go_true rfl ?_ | refine go_false rfl ?_ | refine go_cond rfl (fun h => ?_) (fun h => ?_) | refine ⟨rfl, ?_⟩ | ((first | refine ⟨trivial, ?_⟩ | refine ⟨le_of_ble rfl, ?_⟩) <;> conv => whnf) | fail
        all_goals first
          | (refine ret_ownN rfl rfl rfl rfl rfl ?_
             rw [List.drop_zero, hp, List.take_of_length_le]
             rw [← hp]
             simp only [List.length_append, List.length_take, List.length_drop, List.length_map, List.length_cons, List.length_nil, List.nil_append]; omega)
          | (exfalso; simp at h; omega)
          | (exfalso; simp_all; done)
          | (exfalso; simp_all; omega)
          | trace_state
end Go.Proofs.Ytphoamcbapfbkaa

