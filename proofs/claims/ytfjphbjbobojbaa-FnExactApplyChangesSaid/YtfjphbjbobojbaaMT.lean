/- The walk of the text of a number behind a letter. -/
import Derived.Test.YtfjphbjbobojbaaN1
namespace Go.Proofs.Ytfjphbjbobojbaa
open Go Go.Am
set_option maxRecDepth 100000
set_option maxHeartbeats 4000000
attribute [local irreducible] amOps amC opCall opIndexAddr opPick retQ opMake opStore amDraw opAppend opLoad opNilCmp opIndex

/-- The digits of k in front of a text. -/
def mDig : Nat → Nat → ByteArray → ByteArray
  | 0, _, out => out
  | f + 1, k, out => if k = 0 then out else mDig f (k / 10) (bytesOf [IntKind.u8.wrap (IntKind.i64.wrap (48 + (k : Int).tmod 10))] ++ out)
def mText (x : Int) : ByteArray := if x ≤ 0 then ⟨#[109, 48]⟩ else ⟨#[109]⟩ ++ mDig x.toNat x.toNat ⟨#[]⟩

theorem mDig_zero (f : Nat) (out : ByteArray) : mDig f 0 out = out := by
  cases f with
  | zero => rfl
  | succ f => simp [mDig]
theorem mDig_next {f k : Nat} {out : ByteArray} (h : k ≠ 0) : mDig (f + 1) k out = mDig f (k / 10) (bytesOf [IntKind.u8.wrap (IntKind.i64.wrap (48 + (k : Int).tmod 10))] ++ out) := by
  simp [mDig, h]

theorem c82 (x : Int) (hx : x ≤ 1152921504606846976) : CallOk Try.prog 82 [.imm (.int .i64 x)] { res := [.imm (.str (mText x))] } := by
  refine callOk_of tyOk Try.func82 rfl rfl (le_of_ble rfl) (le_of_ble rfl) (mutOk_imm rfl _) ?_
  by_cases h0 : x ≤ 0
  · have hm : mText x = ⟨#[109, 48]⟩ := by unfold mText; rw [if_pos h0]
    repeat' first | refine go_seq ?_ | refine go_region ?_ | ((first | refine go_op rfl ?_ | refine go_nil ?_) <;> conv => whnf) | ((first | refine ⟨by kernel_rfl, ?_⟩ | refine go_ret ?_) <;> conv => whnf) | refine go_block ?_ | ((first | refine go_skip ?_ | refine go_exit ?_) <;> conv => whnf) | refine go_true rfl ?_ | refine go_false rfl ?_ | refine go_cond rfl (fun h => ?_) (fun h => ?_) | refine ⟨rfl, ?_⟩ | ((first | refine ⟨trivial, ?_⟩ | refine ⟨le_of_ble rfl, ?_⟩) <;> conv => whnf) | fail
    all_goals first
      | exact ret_imm rfl rfl rfl rfl (by rw [hm]) rfl
      | (exfalso; simp only [decide_eq_false_iff_not] at h; omega)
  · have hm : mText x = ⟨#[109]⟩ ++ mDig x.toNat x.toNat ⟨#[]⟩ := by unfold mText; rw [if_neg h0]
    obtain ⟨n, rfl⟩ : ∃ n : Nat, x = n := ⟨x.toNat, by omega⟩
    rw [Int.toNat_natCast] at hm
    repeat' first | refine go_seq ?_ | refine go_region ?_ | ((first | refine go_op rfl ?_ | refine go_nil ?_) <;> conv => whnf) | ((first | refine ⟨by kernel_rfl, ?_⟩ | refine go_ret ?_) <;> conv => whnf) | refine go_block ?_ | ((first | refine go_skip ?_ | refine go_exit ?_) <;> conv => whnf) | refine go_true rfl ?_ | refine go_false rfl ?_ | refine go_cond rfl (fun h => ?_) (fun h => ?_) | refine ⟨rfl, ?_⟩ | ((first | refine ⟨trivial, ?_⟩ | refine ⟨le_of_ble rfl, ?_⟩) <;> conv => whnf) | fail
    · exfalso; simp only [decide_eq_true_eq] at h; omega
    refine go_loop (α := Nat × Nat × ByteArray) (fun y => mDig y.1 y.2.1 y.2.2 = mDig n n ⟨#[]⟩ ∧ y.2.1 ≤ y.1 ∧ y.2.2.size + y.1 ≤ n) (fun y => y.1)
      (fun y => st Try.f82.ntmps [(0, .imm (.int .i64 (y.2.1 : Nat))), (3, .imm (.str y.2.2))] [] []) (n, n, ⟨#[]⟩) ⟨rfl, Nat.le_refl _, by show 0 + n ≤ n; omega⟩ (ref_st0 rfl ⟨rfl, rfl, trivial⟩ rfl) ?_
    rintro ⟨f, k, out⟩ ⟨h1, h2, h3⟩
    simp only at h1 h2 h3
    by_cases hk : k = 0
    · subst hk
      rw [mDig_zero] at h1
      have hsz : (⟨#[109]⟩ : ByteArray).size + out.size ≤ 4611686018427387904 := by show 1 + out.size ≤ _; omega
      repeat' first | refine go_seq ?_ | refine go_region ?_ | ((first | refine go_op rfl ?_ | refine go_nil ?_ | refine ⟨hsz, ?_⟩) <;> conv => whnf) | ((first | refine ⟨by kernel_rfl, ?_⟩ | refine go_ret ?_) <;> conv => whnf) | refine go_block ?_ | ((first | refine go_skip ?_ | refine go_exit ?_) <;> conv => whnf) | refine go_true rfl ?_ | refine go_false rfl ?_ | refine go_cond rfl (fun h => ?_) (fun h => ?_) | refine ⟨rfl, ?_⟩ | ((first | refine ⟨trivial, ?_⟩ | refine ⟨le_of_ble rfl, ?_⟩) <;> conv => whnf) | fail
      all_goals first
        | exact ret_imm rfl rfl rfl rfl (by rw [hm, ← h1]) rfl
        | (exfalso; simp at h; done)
    · obtain ⟨g, rfl⟩ : ∃ g, f = g + 1 := ⟨f - 1, by omega⟩
      rw [mDig_next hk] at h1
      have hsz : (bytesOf [IntKind.u8.wrap (IntKind.i64.wrap (48 + (k : Int).tmod 10))]).size + out.size ≤ 4611686018427387904 := by show 1 + out.size ≤ _; omega
      have hne : (10 : Int) ≠ 0 := by omega
      have hdiv : IntKind.i64.wrap ((k : Int).tdiv 10) = ((k / 10 : Nat) : Int) := by
        rw [Int.tdiv_eq_ediv_of_nonneg (by omega), wrap_small (by omega) (by omega)]
        omega
      repeat' first | refine go_seq ?_ | refine go_region ?_ | ((first | refine go_op rfl ?_ | refine go_nil ?_ | refine ⟨hsz, ?_⟩ | refine ⟨hne, ?_⟩) <;> conv => whnf) | ((first | refine ⟨by kernel_rfl, ?_⟩ | refine go_ret ?_) <;> conv => whnf) | refine go_block ?_ | ((first | refine go_skip ?_ | refine go_exit ?_) <;> conv => whnf) | refine go_true rfl ?_ | refine go_false rfl ?_ | refine go_cond rfl (fun h => ?_) (fun h => ?_) | refine ⟨rfl, ?_⟩ | ((first | refine ⟨trivial, ?_⟩ | refine ⟨le_of_ble rfl, ?_⟩) <;> conv => whnf) | fail
      · refine go_next (g, k / 10, _) ⟨h1, ?_, ?_⟩ (by simp only; omega) (ref_st0 rfl ⟨?_, rfl, trivial⟩ rfl)
        · simp only; omega
        · show (bytesOf [IntKind.u8.wrap (IntKind.i64.wrap (48 + (k : Int).tmod 10))] ++ out).size + g ≤ n
          rw [ByteArray.size_append]
          show 1 + out.size + g ≤ n
          omega
        · show AV.imm (.int .i64 _) = AV.imm (.int .i64 _)
          rw [hdiv]
      · exfalso; simp at h; omega
end Go.Proofs.Ytfjphbjbobojbaa

