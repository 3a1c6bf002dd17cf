/- Messages as bytes, in plain Lean. -/
import Derived.Test.YtedgcbcphlonpaaDoorTable3
namespace Go.Proofs.YtedgcbcphlonpaaDoor
open Go.RowKit

/-- a message -/
structure Mg where
  k : Int
  s : Int
  r : Int
  i : Int
  o : Opx
deriving DecidableEq
instance : Inhabited Mg := ⟨⟨0, 0, 0, 0, default⟩⟩
def op0 : Opx := ⟨0, false, ⟨0, 0, 0, 0, 0, 0⟩⟩
def mg0 : Mg := ⟨0, 0, 0, 0, op0⟩
/-- the fault of a message -/
def Mg.chk (x : Mg) : Int :=
  if x.k < 1 ∨ 3 < x.k ∨ x.s < 1 ∨ 6 < x.s ∨ x.r < 0 ∨ 20 ≤ x.r ∨ x.i < 0 ∨ 200 < x.i then 1
  else if x.k ≠ 1 then (if x.o ≠ op0 ∨ (x.k = 3 ∧ x.i ≠ 0) then 3 else 0)
  else if x.o.r.chk ≠ 0 then x.o.r.chk
  else if x.o.s ≠ x.s then 3 else 0
def Mg.more (x : Mg) : List Int := [if x.o.add = true then 1 else 0, x.o.r.p, x.o.r.m, x.o.r.b, x.o.r.o, x.o.r.s, x.o.r.v]
/-- its numbers -/
def Mg.nums (x : Mg) : List Int := if x.k = 1 then [x.k, x.s, x.r, x.i] ++ x.more else [x.k, x.s, x.r, x.i]
def Mg.bytes (x : Mg) : List Int := x.nums ++ [x.nums.sum % 251]
def Mg.text (x : Mg) : ByteArray := strOfNums x.bytes
end Go.Proofs.YtedgcbcphlonpaaDoor
