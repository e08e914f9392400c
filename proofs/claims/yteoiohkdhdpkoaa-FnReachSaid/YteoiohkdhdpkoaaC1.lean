/- Times as texts, and that a time is recovered from its text. -/
import Derived.Test.YteoiohkdhdpkoaaB1
namespace Go.Proofs.Yteoiohkdhdpkoaa
open Go Go.Am
set_option maxRecDepth 100000
set_option maxHeartbeats 4000000
attribute [local irreducible] amOps amC opCall opIndexAddr opPick retQ opMake opStore amDraw opAppend opLoad opNilCmp opIndex opSlice

theorem ten_ne : (10 : Int) ≠ 0 := by omega
theorem sixty_ne : (60 : Int) ≠ 0 := by omega
def timeOk (x : Int) : Bool := inR x 0 1799

def digs : List UInt8 := [48, 49, 50, 51, 52, 53, 54, 55, 56, 57]
theorem digs_at : ∀ n, n < 10 → (digs.drop n).take (n + 1 - n) = [UInt8.ofNat (48 + n)] := by decide
theorem szLit (l : List UInt8) : (ByteArray.mk (List.toArray l)).size = l.length := rfl

/-- Two digits. -/
def twoL (n : Nat) : List UInt8 := [UInt8.ofNat (48 + n / 10), UInt8.ofNat (48 + n % 10)]
def clockL (t : Nat) : List UInt8 := twoL (t / 60) ++ [58] ++ twoL (t % 60)
theorem two_bytes : ∀ n : Fin 100, bytesOf [IntKind.u8.wrap (IntKind.i64.wrap (48 + IntKind.i64.wrap (((n.val : Nat) : Int).tdiv 10))), IntKind.u8.wrap (IntKind.i64.wrap (48 + ((n.val : Nat) : Int).tmod 10))] = ofL (twoL n.val) := by decide +kernel

/-- The time that a text of five bytes tells. -/
def hm (a b d e : UInt8) : Nat := ((a.toNat - 48) * 10 + (b.toNat - 48)) * 60 + ((d.toNat - 48) * 10 + (e.toNat - 48))
def digitB (b : UInt8) : Bool := decide (48 ≤ b.toNat) && decide (b.toNat ≤ 57)
def fiveOk (a b c d e : UInt8) : Bool := decide (c.toNat = 58) && (digitB a && digitB b && digitB d && digitB e) && (decide (d.toNat ≤ 53) && decide (hm a b d e ≤ 1799))
def parseL : List UInt8 → Option Nat
  | [a, b, c, d, e] => if fiveOk a b c d e then some (hm a b d e) else none
  | _ => none
theorem parse_clock : ∀ t : Fin 1800, parseL (clockL t.val) = some t.val := by decide +kernel
theorem twoL_digits {a b : UInt8} (ha : digitB a = true) (hb : digitB b = true) : twoL ((a.toNat - 48) * 10 + (b.toNat - 48)) = [a, b] := by
  unfold digitB at ha hb
  simp only [Bool.and_eq_true, decide_eq_true_eq] at ha hb
  unfold twoL
  have e1 : ((a.toNat - 48) * 10 + (b.toNat - 48)) / 10 = a.toNat - 48 := by omega
  have e2 : ((a.toNat - 48) * 10 + (b.toNat - 48)) % 10 = b.toNat - 48 := by omega
  rw [e1, e2, show 48 + (a.toNat - 48) = a.toNat from by omega, show 48 + (b.toNat - 48) = b.toNat from by omega, UInt8.ofNat_toNat, UInt8.ofNat_toNat]
theorem clock_parse {l : List UInt8} {t : Nat} (h : parseL l = some t) : clockL t = l ∧ t ≤ 1799 := by
  unfold parseL at h
  split at h
  · rename_i a b c d e
    split at h
    · rename_i hok
      injection h with h
      subst h
      unfold fiveOk at hok
      simp only [Bool.and_eq_true, decide_eq_true_eq] at hok
      obtain ⟨⟨hc, ⟨⟨ha, hb⟩, hd⟩, he⟩, hd53, ht⟩ := hok
      refine ⟨?_, ht⟩
      unfold clockL
      have hd' := hd
      have he' := he
      unfold digitB at hd' he'
      simp only [Bool.and_eq_true, decide_eq_true_eq] at hd' he'
      have e1 : hm a b d e / 60 = (a.toNat - 48) * 10 + (b.toNat - 48) := by unfold hm; omega
      have e2 : hm a b d e % 60 = (d.toNat - 48) * 10 + (e.toNat - 48) := by unfold hm; omega
      rw [e1, e2, twoL_digits ha hb, twoL_digits hd he]
      have : c = 58 := by
        apply UInt8.toNat_inj.1
        rw [hc]; rfl
      rw [this]
      rfl
    · cases h
  · cases h
end Go.Proofs.Yteoiohkdhdpkoaa

