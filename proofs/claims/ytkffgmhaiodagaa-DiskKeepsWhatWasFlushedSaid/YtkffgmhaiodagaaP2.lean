/- The examples of the disk's laws, on the abstract disk. -/
import Derived.Test.YtkffgmhaiodagaaP1
namespace Go.Disk
open Go.RowKit Go.Own
def sA : List UInt8 := List.replicate 64 97
def sB : List UInt8 := List.replicate 64 98
def s3 : List UInt8 := 97 :: 97 :: 97 :: List.replicate 61 0
def sX : List UInt8 := 96 :: List.replicate 63 97
def x0 : DS := fresh 2
def x1 : DS := ⟨[⟨zeros, some sA, false⟩, ⟨zeros, none, false⟩], false, -1⟩
def x2 : DS := ⟨[⟨s3, none, false⟩, ⟨zeros, none, false⟩], false, -1⟩
def x3 : DS := ⟨[⟨s3, none, false⟩, ⟨zeros, some sA, false⟩], false, -1⟩
def x4 : DS := ⟨[⟨s3, none, false⟩, ⟨sA, none, false⟩], false, -1⟩
def x5 : DS := ⟨[⟨s3, none, false⟩, ⟨sX, none, false⟩], false, -1⟩
def x6 : DS := ⟨[⟨s3, none, true⟩, ⟨sX, none, false⟩], false, -1⟩
def x7 : DS := ⟨[⟨s3, none, true⟩, ⟨sX, none, false⟩], false, 1⟩
def x8 : DS := ⟨[⟨s3, some sB, true⟩, ⟨sX, none, false⟩], false, 0⟩
def x9 : DS := ⟨[⟨s3, some sB, true⟩, ⟨sX, none, false⟩], true, 0⟩
theorem ex1 : awrite x0 0 sA = (0, x1) := by decide +kernel
theorem ex1r : aread x1 0 = (sA, 0) := by decide +kernel
theorem ex1i : aimage x1.s = [zeros, zeros] := by decide +kernel
theorem ex1p : apend x1.s = [0] := by decide +kernel
theorem ex2 : amount x1 [3] = x2 := by decide +kernel
theorem ex2r : aread x2 0 = (s3, 0) := by decide +kernel
theorem ex3 : awrite x2 1 sA = (0, x3) := by decide +kernel
theorem ex4 : aflush x3 = (0, x4) := by decide +kernel
theorem ex5 : arot x4 1 0 = (0, x5) := by decide +kernel
theorem ex5r : aread x5 1 = (sX, 0) := by decide +kernel
theorem ex6 : awear x5 0 = (0, x6) := by decide +kernel
theorem ex7 : atrip x6 1 = x7 := by decide +kernel
theorem ex8 : awrite x7 0 sB = (0, x8) := by decide +kernel
theorem ex9 : aflush x8 = (25, x9) := by decide +kernel
theorem ex9r : aread x9 0 = ([], 25) := by decide +kernel
theorem ex9w : aworn x9.s = [0] := by decide +kernel
theorem ex3s : [97, 97, 97] ++ (zeros.drop 3) = s3 := by decide +kernel
end Go.Disk
