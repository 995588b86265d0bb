/- SHA-256 as plain functions on lists of numbers. No program in sight. -/
import Derived.Test.YtcdgpkhfflehjaaDoorU
import Derived.Test.YtcdgpkhfflehjaaDoorBlk
namespace Go.Sha

/-- A byte as a value. -/
abbrev bv (b : UInt8) : Value := .int .u8 (b.toNat : Int)
open Go.Own in
theorem bytes_cells {w : World} {b off : Nat} {bs : List UInt8} {n : Nat} (hC : Cells w b off (bs.map bv)) (hl : bs.length = n) : ∀ i, i < n → w.cell? ⟨b, off + i, none⟩ = some (.int .u8 ((bs.getD i 0).toNat : Int)) := fun i hi =>
  hC.at (by have h : i < bs.length := by omega
            simp [h])
open Go.Own in
theorem cells_lt {w : World} {b off : Nat} {vs : List Value} (hC : Cells w b off vs) (h : 0 < vs.length) : b < w.heap.size :=
  World.block_lt_of_cell? _ _ (hC.at (i := 0) (List.getElem?_eq_getElem h))
def sig0 (p : Nat) : Nat := xor32 (xor32 (rot p 7) (rot p 18)) (shr32 p 3)
def sig1 (q : Nat) : Nat := xor32 (xor32 (rot q 17) (rot q 19)) (shr32 q 10)
/-- Four bytes as a word, as the program puts them together. -/
def push8 (a b : Nat) : Nat := or32 (shl32 a 8) b
def word (bs : List UInt8) (t : Nat) : Nat :=
  push8 (push8 (push8 (push8 0 (bs.getD (4 * t) 0).toNat) (bs.getD (4 * t + 1) 0).toNat) (bs.getD (4 * t + 2) 0).toNat) (bs.getD (4 * t + 3) 0).toNat
def next (bs : List UInt8) (l : List Nat) (t : Nat) : Nat :=
  if t < 16 then word bs t else add32 (add32 (add32 (l.getD (t - 16) 0) (sig0 (l.getD (t - 15) 0))) (l.getD (t - 7) 0)) (sig1 (l.getD (t - 2) 0))
def sched (bs : List UInt8) : Nat → List Nat
  | 0 => []
  | t + 1 => sched bs t ++ [next bs (sched bs t) t]
theorem sched_length (bs : List UInt8) (t : Nat) : (sched bs t).length = t := by
  induction t with
  | zero => rfl
  | succ t ih => simp [sched, ih]
end Go.Sha
namespace Go.Sha
/-- The eight words of a hash value. -/
structure St where
  a : Nat
  b : Nat
  c : Nat
  d : Nat
  e : Nat
  f : Nat
  g : Nat
  h : Nat
def St.list (s : St) : List Nat := [s.a, s.b, s.c, s.d, s.e, s.f, s.g, s.h]
def mix3 (x i j k : Nat) : Nat := xor32 (xor32 (rot x i) (rot x j)) (rot x k)
def chF (e f g : Nat) : Nat := xor32 (and32 e f) (and32 (xor32 4294967295 e) g)
def majF (a b c : Nat) : Nat := xor32 (xor32 (and32 a b) (and32 a c)) (and32 b c)
def xF (s : St) (k w : Nat) : Nat := add32 (add32 (add32 (add32 s.h (mix3 s.e 6 11 25)) (chF s.e s.f s.g)) k) w
def yF (s : St) : Nat := add32 (mix3 s.a 2 13 22) (majF s.a s.b s.c)
def rnd (s : St) (k w : Nat) : St := ⟨add32 (xF s k w) (yF s), s.a, s.b, s.c, add32 s.d (xF s k w), s.e, s.f, s.g⟩
/-- The round constants. -/
def Kt : List Nat := [1116352408, 1899447441, 3049323471, 3921009573, 961987163, 1508970993, 2453635748, 2870763221, 3624381080, 310598401, 607225278, 1426881987, 1925078388, 2162078206, 2614888103, 3248222580, 3835390401, 4022224774, 264347078, 604807628, 770255983, 1249150122, 1555081692, 1996064986, 2554220882, 2821834349, 2952996808, 3210313671, 3336571891, 3584528711, 113926993, 338241895, 666307205, 773529912, 1294757372, 1396182291, 1695183700, 1986661051, 2177026350, 2456956037, 2730485921, 2820302411, 3259730800, 3345764771, 3516065817, 3600352804, 4094571909, 275423344, 430227734, 506948616, 659060556, 883997877, 958139571, 1322822218, 1537002063, 1747873779, 1955562222, 2024104815, 2227730452, 2361852424, 2428436474, 2756734187, 3204031479, 3329325298]
theorem Kt_length : Kt.length = 64 := by decide
def rnds (ws : List Nat) (s : St) : Nat → St
  | 0 => s
  | t + 1 => rnd (rnds ws s t) (Kt.getD t 0) (ws.getD t 0)
def St.plus (s r : St) : St := ⟨add32 s.a r.a, add32 s.b r.b, add32 s.c r.c, add32 s.d r.d, add32 s.e r.e, add32 s.f r.f, add32 s.g r.g, add32 s.h r.h⟩
def comp (s : St) (bs : List UInt8) : St := s.plus (rnds (sched bs 64) s 64)
end Go.Sha
