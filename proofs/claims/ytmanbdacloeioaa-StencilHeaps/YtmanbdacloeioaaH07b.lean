/- A part of the proof: H07b. -/
import Derived.Test.YtmanbdacloeioaaH07a
set_option linter.unusedVariables false
set_option linter.unusedSimpArgs false
set_option maxRecDepth 20000
namespace S07
open Go Abs
def pU (p : Int × Int) : FV := .agg [u8 p.1, u8 p.2]
def BB (l : List (Int × Int)) : Prop := ∀ p ∈ l, 0 ≤ p.1 ∧ p.1 < 256 ∧ 0 ≤ p.2 ∧ p.2 < 256
def pN (N : Int) (p : Int × Int) : Int × Int := (p.1.tmod N, p.2.tmod N)
def hStep (N : Int) (s : List (Int × Int) × List Bool) (p : Int × Int) : List (Int × Int) × List Bool :=
  if s.2.getD (pN N p).1.toNat false = false ∧ s.2.getD (pN N p).2.toNat false = false then (s.1 ++ [pN N p], (s.2.set (pN N p).1.toNat true).set (pN N p).2.toNat true) else s
def b8 : List Bool := [false, false, false, false, false, false, false, false]
def madeH (N : Int) (l : List (Int × Int)) : List (Int × Int) × List Bool := (l.take 6).foldl (hStep N) ([], b8)
def madeA (N : Int) (l : List (Int × Int)) : List (Int × Int) := ((l.take 6).map (pN N)).filter fun q => decide (q.1 ≠ q.2)
def madeN (b : Int) : Int := 1 + b.tmod 8
def madeV (b : Int) (hl al : List (Int × Int)) : FV := .agg [.int (madeN b), lstN ((madeH (madeN b) hl).1.map pF), lstN ((madeA (madeN b) al).map pF)]
def bL (b : Bool) : LV := .fv (.val (.bool b))
end S07

