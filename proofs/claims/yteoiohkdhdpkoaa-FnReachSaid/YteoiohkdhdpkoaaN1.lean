/- The walks of the laws' own helpers over networks: their size, their copy, their comparison. MADE BY PROGRAM (nest.py). -/
import Derived.Test.YteoiohkdhdpkoaaB1
namespace Go.Proofs.Yteoiohkdhdpkoaa
open Go Go.Am
set_option maxRecDepth 100000
set_option maxHeartbeats 4000000
attribute [local irreducible] amOps amC opCall opIndexAddr opPick retQ opMake opStore amDraw opAppend opLoad opNilCmp opIndex opSlice

def strRow (s : ByteArray) : List D := [.str s]
theorem str_gr (xs : List ByteArray) : ∀ r ∈ xs.map strRow, r.all D.gr = true := by
  intro r hr
  obtain ⟨v, _, rfl⟩ := List.mem_map.1 hr
  rfl
def intsRow (l : List Int) : List D := [.list (l.map intRow)]
def szStr (n : Int) (s : ByteArray) : Int := less n s.size
theorem szStr_sz : Sz szStr := less_sz.on ByteArray.size

def szIntS (n : Int) (xs : List Int) : Int := less n xs.length
theorem szIntS_sz : Sz szIntS := less_sz.on List.length

def szStringS (n : Int) (xs : List ByteArray) : Int := szList szStr n xs
theorem szStringS_sz : Sz szStringS := szList_sz szStr_sz

structure Line where
  name : ByteArray
  stops : List Int
  runs : List Int

def Line.enc (v : Line) : List D := [.str v.name, .list (v.stops.map intRow), .list (v.runs.map intRow)]
def Line.ok (v : Line) : Prop := v.name.size ≤ maxLen ∧ v.stops.length ≤ 9223372036854775807 ∧ (∀ x ∈ v.stops, i64 x) ∧ v.runs.length ≤ 9223372036854775807 ∧ (∀ x ∈ v.runs, i64 x)
def Line.fit (v : Line) : Prop := v.name.size ≤ 1048576 ∧ v.stops.length ≤ 1048576 ∧ v.runs.length ≤ 1048576

def szLine (n : Int) (v : Line) : Int := szIntS (szIntS (less n v.name.size) v.stops) v.runs
theorem szLine_sz : Sz szLine := (Sz.comp (f := fun n (v : Line) => szIntS (less (n) v.name.size) v.stops) (g := fun n (v : Line) => szIntS (n) v.runs) (Sz.comp (f := fun n (v : Line) => less (n) v.name.size) (g := fun n (v : Line) => szIntS (n) v.stops) (less_sz.on (fun v : Line => v.name.size)) (szIntS_sz.on (fun v : Line => v.stops))) (szIntS_sz.on (fun v : Line => v.runs)))

theorem szLine_fit {n : Int} {v : Line} (h1 : n ≤ 1048576) (h : 0 ≤ szLine n v) : v.fit := by
  have p2 : 0 ≤ szIntS (less (n) v.name.size) v.stops := szIntS_sz.pos (v := v.runs) h
  obtain ⟨a2, b2, _⟩ := less_pos (k := v.runs.length) h
  have p1 : 0 ≤ less (n) v.name.size := szIntS_sz.pos (v := v.stops) p2
  obtain ⟨a1, b1, _⟩ := less_pos (k := v.stops.length) p2
  obtain ⟨a0, b0, _⟩ := less_pos p1
  have h0 : 0 ≤ n := less_sz.pos (v := v.name.size) p1
  have u1 := less_sz.le (n) (v.name.size) h0
  have u2 := szIntS_sz.le (less (n) v.name.size) (v.stops) p1
  exact ⟨by omega, by omega, by omega⟩

def szLineS (n : Int) (xs : List Line) : Int := szList szLine n xs
theorem szLineS_sz : Sz szLineS := szList_sz szLine_sz

structure Network where
  stops : List ByteArray
  lines : List Line

def Network.enc (v : Network) : List D := [.list (v.stops.map strRow), .list (v.lines.map Line.enc)]
def Network.ok (v : Network) : Prop := v.stops.length ≤ 9223372036854775807 ∧ (∀ x ∈ v.stops, x.size ≤ maxLen) ∧ v.lines.length ≤ 9223372036854775807 ∧ (∀ x ∈ v.lines, x.ok)
def Network.fit (v : Network) : Prop := v.stops.length ≤ 1048576 ∧ (∀ x ∈ v.stops, x.size ≤ 1048576) ∧ v.lines.length ≤ 1048576 ∧ (∀ x ∈ v.lines, x.fit)

def szNetwork (n : Int) (v : Network) : Int := szLineS (szStringS n v.stops) v.lines
theorem szNetwork_sz : Sz szNetwork := (Sz.comp (f := fun n (v : Network) => szStringS (n) v.stops) (g := fun n (v : Network) => szLineS (n) v.lines) (szStringS_sz.on (fun v : Network => v.stops)) (szLineS_sz.on (fun v : Network => v.lines)))

theorem szNetwork_fit {n : Int} {v : Network} (h1 : n ≤ 1048576) (h : 0 ≤ szNetwork n v) : v.fit := by
  have p1 : 0 ≤ szStringS (n) v.stops := szLineS_sz.pos (v := v.lines) h
  obtain ⟨b1, a1, c1⟩ := szList_pos szLine_sz h
  obtain ⟨b0, a0, c0⟩ := szList_pos szStr_sz p1
  have h0 : 0 ≤ n := szStringS_sz.pos (v := v.stops) p1
  have u1 := szStringS_sz.le (n) (v.stops) h0
  exact ⟨by omega, fun x hx => by obtain ⟨m, e1, e2⟩ := c0 x hx; have := less_pos e2; omega, by omega, fun x hx => by obtain ⟨m, e1, e2⟩ := c1 x hx; exact szLine_fit (by omega) e2⟩

end Go.Proofs.Yteoiohkdhdpkoaa

