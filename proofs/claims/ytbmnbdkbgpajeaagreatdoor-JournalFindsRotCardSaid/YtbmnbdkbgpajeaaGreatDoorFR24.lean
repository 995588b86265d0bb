/- SHA-256 of 4096 messages at once: what the great numbers hold. No program. -/
import Derived.Test.YtbmnbdkbgpajeaaGreatDoorFR23
import Derived.Test.YtbmnbdkbgpajeaaGreatDoorFR05
import Derived.Test.YtbmnbdkbgpajeaaGreatDoorFR08
/- SHA-256 of 4096 messages at once: what the great numbers hold. No program. -/
section
namespace Go.Bn
open Go.Sha
theorem ones_pk : ∀ n, ones n = pk (2 ^ n) fun _ => 1
  | 0 => rfl
  | n + 1 => by
    show ones n + (ones n) <<< (64 * 2 ^ n) = _
    rw [ones_pk n, Nat.pow_succ, Nat.mul_two, pk_len]
theorem iota_pk : ∀ n, iota n = pk (2 ^ n) fun i => i
  | 0 => rfl
  | n + 1 => by
    show iota n + (iota n + ones n * 2 ^ n) <<< (64 * 2 ^ n) = _
    rw [iota_pk n, ones_pk n, pk_mul, pk_add, Nat.pow_succ, Nat.mul_two, pk_len]
    have e : (fun i => i + 1 * 2 ^ n) = fun i => 2 ^ n + i := by funext i; omega
    rw [e]
/-- 4096 numbers below m -/
structure B (V : Nat) (f : Nat → Nat) (m : Nat) : Prop where
  eq : V = pk 4096 f
  lt : ∀ i, i < 4096 → f i < m
theorem B.congr {V : Nat} {f g : Nat → Nat} {m : Nat} (h : B V f m) (e : ∀ i, i < 4096 → f i = g i) : B V g m := ⟨by rw [h.eq]; exact pk_congr _ _ _ e, fun i hi => by rw [← e i hi]; exact h.lt i hi⟩
theorem B.mono {V : Nat} {f : Nat → Nat} {m k : Nat} (h : B V f m) (e : m ≤ k) : B V f k := ⟨h.eq, fun i hi => Nat.lt_of_lt_of_le (h.lt i hi) e⟩
theorem On_pk : On = pk 4096 fun _ => 1 := ones_pk 12
theorem mul_pk (k : Nat) : Nat.mul On k = pk 4096 fun _ => k := by
  show On * k = _
  rw [On_pk, pk_mul]
  simp only [Nat.one_mul]
theorem B.const {k m : Nat} (h : k < m) : B (Nat.mul On k) (fun _ => k) m := ⟨mul_pk k, fun _ _ => h⟩
theorem B.add {V W : Nat} {f g : Nat → Nat} {a b : Nat} (h1 : B V f a) (h2 : B W g b) : B (Nat.add V W) (fun i => f i + g i) (a + b) := by
  refine ⟨?_, fun i hi => ?_⟩
  · show V + W = _
    rw [h1.eq, h2.eq, pk_add]
  · have := h1.lt i hi
    have := h2.lt i hi
    try dsimp only
    omega
theorem B.mul {V : Nat} {f : Nat → Nat} {m : Nat} (h : B V f m) (c : Nat) (hc : 0 < c) : B (Nat.mul V c) (fun i => f i * c) (m * c) := by
  refine ⟨?_, fun i hi => ?_⟩
  · show V * c = _
    rw [h.eq, pk_mul]
  · exact Nat.mul_lt_mul_of_pos_right (h.lt i hi) hc
theorem B.shr {V : Nat} {f : Nat → Nat} {m r k : Nat} (h : B V f m) (hm : m ≤ 18446744073709551616) (hr : r ≤ 32) (hk : k < 4294967296) : B (Nat.land (Nat.shiftRight V r) (Nat.mul On k)) (fun i => (f i >>> r) &&& k) (k + 1) := by
  refine ⟨?_, fun i hi => Nat.lt_succ_of_le Nat.and_le_right⟩
  show (V >>> r) &&& _ = _
  rw [h.eq, mul_pk, pk_shr hk hr _ _ fun i hi => Nat.lt_of_lt_of_le (h.lt i hi) hm]
theorem B.and0 {V : Nat} {f : Nat → Nat} {m k : Nat} (h : B V f m) (hm : m ≤ 18446744073709551616) (hk : k < 18446744073709551616) : B (Nat.land V (Nat.mul On k)) (fun i => f i &&& k) (k + 1) := by
  refine ⟨?_, fun i hi => Nat.lt_succ_of_le Nat.and_le_right⟩
  show V &&& _ = _
  rw [h.eq, mul_pk, pk_and _ _ _ (fun i hi => Nat.lt_of_lt_of_le (h.lt i hi) hm) fun _ _ => hk]
theorem B.mask {V : Nat} {f : Nat → Nat} {m : Nat} (h : B V f m) (hm : m ≤ 18446744073709551616) : B (Nat.land V Mm) (fun i => f i % 4294967296) 4294967296 :=
  (h.and0 (k := 4294967295) hm (by decide)).congr fun i _ => Nat.and_two_pow_sub_one_eq_mod (f i) 32
theorem B.xor {V W : Nat} {f g : Nat → Nat} (h1 : B V f 4294967296) (h2 : B W g 4294967296) : B (Nat.xor V W) (fun i => f i ^^^ g i) 4294967296 := by
  refine ⟨?_, fun i hi => Nat.xor_lt_two_pow (n := 32) (h1.lt i hi) (h2.lt i hi)⟩
  show V ^^^ W = _
  rw [h1.eq, h2.eq, pk_xor _ _ _ (fun i hi => Nat.lt_trans (h1.lt i hi) (by decide)) fun i hi => Nat.lt_trans (h2.lt i hi) (by decide)]
theorem B.and {V W : Nat} {f g : Nat → Nat} (h1 : B V f 4294967296) (h2 : B W g 4294967296) : B (Nat.land V W) (fun i => f i &&& g i) 4294967296 := by
  refine ⟨?_, fun i hi => Nat.and_lt_two_pow (n := 32) _ (h2.lt i hi)⟩
  show V &&& W = _
  rw [h1.eq, h2.eq, pk_and _ _ _ (fun i hi => Nat.lt_trans (h1.lt i hi) (by decide)) fun i hi => Nat.lt_trans (h2.lt i hi) (by decide)]
/-! words -/
theorem bit_hi {x j : Nat} (hx : x < 4294967296) (hj : 32 ≤ j) : x.testBit j = false := Nat.testBit_lt_two_pow (Nat.lt_of_lt_of_le hx (by rw [show 4294967296 = 2 ^ 32 from rfl]; exact Nat.pow_le_pow_right (by decide) hj))
theorem rot_dup {x r : Nat} (hx : x < 4294967296) (h0 : 0 < r) (h1 : r < 32) : ((x * 4294967297) >>> r) &&& 4294967295 = rot x r := by
  have e : x * 4294967297 = 2 ^ 32 * x + x := by omega
  refine Nat.eq_of_testBit_eq fun j => ?_
  unfold rot or32 shr32 shl32
  rw [Nat.min_eq_left (by omega), Nat.min_eq_left (by omega), show 4294967295 = 2 ^ 32 - 1 from rfl, show 4294967296 = 2 ^ 32 from rfl, Nat.testBit_and, Nat.testBit_two_pow_sub_one, Nat.testBit_shiftRight, e, Nat.testBit_two_pow_mul_add _ hx, Nat.testBit_mod_two_pow, Nat.testBit_or, Nat.testBit_mod_two_pow, Nat.testBit_mul_two_pow, ← Nat.shiftRight_eq_div_pow, Nat.testBit_shiftRight]
  by_cases hj : j < 32
  · by_cases h2 : r + j < 32
    · simp [hj, h2, show ¬ 32 - r ≤ j by omega]
    · rw [bit_hi hx (j := r + j) (by omega)]
      simp [hj, h2, show 32 - r ≤ j by omega, show r + j - 32 = j - (32 - r) by omega]
  · simp [hj]
theorem shr_word {x t : Nat} (hx : x < 4294967296) (ht : t ≤ 32) : (x >>> t) &&& 4294967295 = shr32 x t := by
  unfold shr32
  rw [Nat.min_eq_left ht, ← Nat.shiftRight_eq_div_pow, show 4294967295 = 2 ^ 32 - 1 from rfl, Nat.and_two_pow_sub_one_eq_mod, Nat.mod_eq_of_lt]
  rw [Nat.shiftRight_eq_div_pow]
  exact Nat.lt_of_le_of_lt (Nat.div_le_self _ _) hx
theorem rot_lt (x r : Nat) : rot x r < 4294967296 := by unfold rot or32; exact Nat.mod_lt _ (by decide)
theorem shr32_lt {x : Nat} (hx : x < 4294967296) (t : Nat) : shr32 x t < 4294967296 := Nat.lt_of_le_of_lt (Nat.div_le_self _ _) hx
theorem xor32_word {a b : Nat} (ha : a < 4294967296) (hb : b < 4294967296) : xor32 a b = a ^^^ b := Nat.mod_eq_of_lt (Nat.xor_lt_two_pow (n := 32) ha hb)
theorem xor32_lt (a b : Nat) : xor32 a b < 4294967296 := Nat.mod_lt _ (by decide)
theorem and32_lt (a b : Nat) : and32 a b < 4294967296 := Nat.mod_lt _ (by decide)
theorem add32_lt (a b : Nat) : add32 a b < 4294967296 := Nat.mod_lt _ (by decide)
theorem ch_word {e f g : Nat} (he : e < 4294967296) (hf : f < 4294967296) (hg : g < 4294967296) : g ^^^ (e &&& (f ^^^ g)) = chF e f g := by
  unfold chF
  rw [xor32_word (and32_lt _ _) (and32_lt _ _)]
  unfold and32 xor32
  refine Nat.eq_of_testBit_eq fun j => ?_
  rw [show 4294967295 = 2 ^ 32 - 1 from rfl, show 4294967296 = 2 ^ 32 from rfl]
  simp only [Nat.testBit_xor, Nat.testBit_and, Nat.testBit_mod_two_pow, Nat.testBit_two_pow_sub_one]
  by_cases hj : j < 32
  · simp only [hj, decide_true]
    cases e.testBit j <;> cases f.testBit j <;> cases g.testBit j <;> rfl
  · rw [bit_hi he (by omega), bit_hi hf (by omega), bit_hi hg (by omega)]
    simp [hj]
theorem maj_word {a b c : Nat} (ha : a < 4294967296) (hb : b < 4294967296) (hc : c < 4294967296) : b ^^^ ((a ^^^ b) &&& (b ^^^ c)) = majF a b c := by
  unfold majF
  rw [xor32_word (xor32_lt _ _) (and32_lt _ _), xor32_word (and32_lt _ _) (and32_lt _ _)]
  unfold and32
  refine Nat.eq_of_testBit_eq fun j => ?_
  rw [show 4294967296 = 2 ^ 32 from rfl]
  simp only [Nat.testBit_xor, Nat.testBit_and, Nat.testBit_mod_two_pow]
  by_cases hj : j < 32
  · simp only [hj, decide_true]
    cases a.testBit j <;> cases b.testBit j <;> cases c.testBit j <;> rfl
  · rw [bit_hi ha (by omega), bit_hi hb (by omega), bit_hi hc (by omega)]
    simp [hj]
theorem B.big {V : Nat} {f : Nat → Nat} (h : B V f 4294967296) : B (Nat.mul V 4294967297) (fun i => f i * 4294967297) 18446744073709551616 := by
  refine ⟨(h.mul 4294967297 (by decide)).eq, fun i hi => ?_⟩
  have := h.lt i hi
  try dsimp only
  omega
theorem B.shm {V : Nat} {f : Nat → Nat} {m r : Nat} (h : B V f m) (hm : m ≤ 18446744073709551616) (hr : r ≤ 32) : B (Nat.land (Nat.shiftRight V r) Mm) (fun i => (f i >>> r) &&& 4294967295) 4294967296 := h.shr hm hr (by decide)
theorem land3 (a b c m : Nat) : Nat.land (Nat.xor (Nat.xor a b) c) m = Nat.xor (Nat.xor (Nat.land a m) (Nat.land b m)) (Nat.land c m) := by
  show ((a ^^^ b) ^^^ c) &&& m = ((a &&& m) ^^^ (b &&& m)) ^^^ (c &&& m)
  rw [Nat.and_xor_distrib_right, Nat.and_xor_distrib_right]
theorem B.Sg {V : Nat} {f : Nat → Nat} (h : B V f 4294967296) {r s t : Nat} (hr : 0 < r ∧ r < 32) (hs : 0 < s ∧ s < 32) (ht : 0 < t ∧ t < 32) : B (Bn.Sg r s t V) (fun i => mix3 (f i) r s t) 4294967296 := by
  have hb := h.big
  have h1 := hb.shm (r := r) (Nat.le_refl _) (by omega)
  have h2 := hb.shm (r := s) (Nat.le_refl _) (by omega)
  have h3 := hb.shm (r := t) (Nat.le_refl _) (by omega)
  have hx := (h1.xor h2).xor h3
  rw [← land3] at hx
  refine B.congr (V := Bn.Sg r s t V) hx fun i hi => ?_
  try dsimp only
  rw [rot_dup (h.lt i hi) hr.1 hr.2, rot_dup (h.lt i hi) hs.1 hs.2, rot_dup (h.lt i hi) ht.1 ht.2]
  unfold mix3
  rw [xor32_word (xor32_lt _ _) (rot_lt _ _), xor32_word (rot_lt _ _) (rot_lt _ _)]
theorem B.sg {V : Nat} {f : Nat → Nat} (h : B V f 4294967296) {r s t : Nat} (hr : 0 < r ∧ r < 32) (hs : 0 < s ∧ s < 32) (ht : t ≤ 32) : B (Bn.sg r s t V) (fun i => xor32 (xor32 (rot (f i) r) (rot (f i) s)) (shr32 (f i) t)) 4294967296 := by
  have hb := h.big
  have h1 := hb.shm (r := r) (Nat.le_refl _) (by omega)
  have h2 := hb.shm (r := s) (Nat.le_refl _) (by omega)
  have h3 := h.shm (r := t) (by decide) ht
  have hx := (h1.xor h2).xor h3
  rw [← land3] at hx
  refine B.congr (V := Bn.sg r s t V) hx fun i hi => ?_
  try dsimp only
  rw [rot_dup (h.lt i hi) hr.1 hr.2, rot_dup (h.lt i hi) hs.1 hs.2, shr_word (h.lt i hi) ht, xor32_word (xor32_lt _ _) (shr32_lt (h.lt i hi) _), xor32_word (rot_lt _ _) (rot_lt _ _)]
theorem B.ad {V W : Nat} {f g : Nat → Nat} {a b : Nat} (h1 : B V f a) (h2 : B W g b) (hab : a + b ≤ 18446744073709551616) : B (Bn.ad V W) (fun i => (f i + g i) % 4294967296) 4294967296 := (h1.add h2).mask hab
/-- 4096 states -/
structure VS (A B' C D E F G H : Nat) (s : Nat → St) : Prop where
  a : B A (fun i => (s i).a) 4294967296
  b : B B' (fun i => (s i).b) 4294967296
  c : B C (fun i => (s i).c) 4294967296
  d : B D (fun i => (s i).d) 4294967296
  e : B E (fun i => (s i).e) 4294967296
  f : B F (fun i => (s i).f) 4294967296
  g : B G (fun i => (s i).g) 4294967296
  h : B H (fun i => (s i).h) 4294967296
theorem VS.step {A B' C D E F G H KW k : Nat} {s : Nat → St} {w : Nat → Nat} (h : VS A B' C D E F G H s) (hk : B KW (fun i => w i + k) 8589934592) :
    VS (A1 (T1 H E F G KW) A B' (Nat.xor A B') (Nat.xor B' C)) A B' C (Bn.ad D (T1 H E F G KW)) E F G (fun i => rnd (s i) k (w i)) := by
  have hT : B (T1 H E F G KW) (fun i => ((s i).h + mix3 (s i).e 6 11 25 + chF (s i).e (s i).f (s i).g) + (w i + k)) 30064771072 := by
    have h1 := ((h.h.add (h.e.Sg (r := 6) (s := 11) (t := 25) (by decide) (by decide) (by decide))).add (h.g.xor (h.e.and (h.f.xor h.g)))).add hk
    refine B.congr (V := T1 H E F G KW) (h1.mono (by decide)) fun i hi => ?_
    try dsimp only
    rw [ch_word (h.e.lt i hi) (h.f.lt i hi) (h.g.lt i hi)]
  refine ⟨?_, h.a, h.b, h.c, ?_, h.e, h.f, h.g⟩
  · have h1 := ((hT.add (h.a.Sg (r := 2) (s := 13) (t := 22) (by decide) (by decide) (by decide))).add (h.b.xor ((h.a.xor h.b).and (h.b.xor h.c)))).mask (by decide)
    refine B.congr (V := A1 (T1 H E F G KW) A B' (Nat.xor A B') (Nat.xor B' C)) h1 fun i hi => ?_
    try dsimp only
    rw [maj_word (h.a.lt i hi) (h.b.lt i hi) (h.c.lt i hi)]
    unfold rnd xF yF
    try dsimp only
    unfold add32
    omega
  · refine B.congr (V := Bn.ad D (T1 H E F G KW)) (h.d.ad hT (by decide)) fun i hi => ?_
    try dsimp only
    unfold rnd xF
    try dsimp only
    unfold add32
    omega
theorem st2_eq (k : Nat) (l : List Nat) (ih : Nat → Nat → Nat → Nat → Nat → Nat → Nat → Nat → Nat → Nat) (bc a b c d e f g h : Nat) : st2 k l ih bc a b c d e f g h = ih (Nat.xor a b) (A1 (T1 h e f g (Nat.mul On k)) a b (Nat.xor a b) bc) a b c (Bn.ad d (T1 h e f g (Nat.mul On k))) e f g := rfl
theorem go2_cons (k : Nat) (l : List Nat) : go2 (k :: l) = st2 k l (go2 l) := rfl
theorem go2_nil (bc a b c d e f g h : Nat) : go2 [] bc a b c d e f g h = a := rfl
theorem go2_ok (l : List Nat) : (∀ k ∈ l, k < 4294967296) → ∀ (A B' C D E F G H : Nat) (s : Nat → St), VS A B' C D E F G H s → B (go2 l (Nat.xor B' C) A B' C D E F G H) (fun i => (l.foldl (fun s k => rnd s k 0) (s i)).a) 4294967296 := by
  induction l with
  | nil =>
    intro _ A B' C D E F G H s h
    rw [go2_nil]
    exact h.a
  | cons k l ih =>
    intro hl A B' C D E F G H s h
    have hk : B (Nat.mul On k) (fun i => (fun _ => 0) i + k) 8589934592 := (B.const (k := k) (m := 8589934592) (Nat.lt_trans (hl k (List.mem_cons_self ..)) (by decide))).congr fun i _ => (Nat.zero_add k).symm
    rw [go2_cons, st2_eq]
    exact ih (fun x hx => hl x (List.mem_cons_of_mem _ hx)) _ _ _ _ _ _ _ _ _ (h.step hk)
theorem K2_lt : ∀ k ∈ K2, k < 4294967296 := by decide
/-- the second word out of the state behind the first block's rounds -/
def fF (s : St) : Nat := add32 (K2.foldl (fun s k => rnd s k 0) (iv.plus s)).a (iv.plus s).b
theorem fin1_ok {A B' C D E F G H : Nat} {s : Nat → St} (h : VS A B' C D E F G H s) : B (fin1 A B' C D E F G H) (fun i => fF (s i)) 4294967296 := by
  have hp : VS (Bn.ad A (Nat.mul On 1779033703)) (Bn.ad B' (Nat.mul On 3144134277)) (Bn.ad C (Nat.mul On 1013904242)) (Bn.ad D (Nat.mul On 2773480762)) (Bn.ad E (Nat.mul On 1359893119)) (Bn.ad F (Nat.mul On 2600822924)) (Bn.ad G (Nat.mul On 528734635)) (Bn.ad H (Nat.mul On 1541459225)) (fun i => iv.plus (s i)) := by
    refine ⟨?_, ?_, ?_, ?_, ?_, ?_, ?_, ?_⟩
    · exact (h.a.ad (B.const (m := 4294967296) (by decide)) (by decide)).congr fun i _ => by show _ = add32 _ _; unfold add32; rw [Nat.add_comm]; rfl
    · exact (h.b.ad (B.const (m := 4294967296) (by decide)) (by decide)).congr fun i _ => by show _ = add32 _ _; unfold add32; rw [Nat.add_comm]; rfl
    · exact (h.c.ad (B.const (m := 4294967296) (by decide)) (by decide)).congr fun i _ => by show _ = add32 _ _; unfold add32; rw [Nat.add_comm]; rfl
    · exact (h.d.ad (B.const (m := 4294967296) (by decide)) (by decide)).congr fun i _ => by show _ = add32 _ _; unfold add32; rw [Nat.add_comm]; rfl
    · exact (h.e.ad (B.const (m := 4294967296) (by decide)) (by decide)).congr fun i _ => by show _ = add32 _ _; unfold add32; rw [Nat.add_comm]; rfl
    · exact (h.f.ad (B.const (m := 4294967296) (by decide)) (by decide)).congr fun i _ => by show _ = add32 _ _; unfold add32; rw [Nat.add_comm]; rfl
    · exact (h.g.ad (B.const (m := 4294967296) (by decide)) (by decide)).congr fun i _ => by show _ = add32 _ _; unfold add32; rw [Nat.add_comm]; rfl
    · exact (h.h.ad (B.const (m := 4294967296) (by decide)) (by decide)).congr fun i _ => by show _ = add32 _ _; unfold add32; rw [Nat.add_comm]; rfl
  exact (go2_ok K2 K2_lt _ _ _ _ _ _ _ _ _ hp).ad hp.b (by decide)
/-- 4096 windows of sixteen words -/
structure Win (w0 w1 w2 w3 w4 w5 w6 w7 w8 w9 w10 w11 w12 w13 w14 w15 : Nat) (W : Nat → Nat → Nat) (t : Nat) : Prop where
  x0 : B w0 (fun i => W i t) 4294967296
  x1 : B w1 (fun i => W i (t + 1)) 4294967296
  x2 : B w2 (fun i => W i (t + 2)) 4294967296
  x3 : B w3 (fun i => W i (t + 3)) 4294967296
  x4 : B w4 (fun i => W i (t + 4)) 4294967296
  x5 : B w5 (fun i => W i (t + 5)) 4294967296
  x6 : B w6 (fun i => W i (t + 6)) 4294967296
  x7 : B w7 (fun i => W i (t + 7)) 4294967296
  x8 : B w8 (fun i => W i (t + 8)) 4294967296
  x9 : B w9 (fun i => W i (t + 9)) 4294967296
  x10 : B w10 (fun i => W i (t + 10)) 4294967296
  x11 : B w11 (fun i => W i (t + 11)) 4294967296
  x12 : B w12 (fun i => W i (t + 12)) 4294967296
  x13 : B w13 (fun i => W i (t + 13)) 4294967296
  x14 : B w14 (fun i => W i (t + 14)) 4294967296
  x15 : B w15 (fun i => W i (t + 15)) 4294967296
/-- rounds, one by one -/
def rl : List Nat → Nat → (Nat → Nat) → St → St
  | [], _, _, s => s
  | k :: l, t, W, s => rl l (t + 1) W (rnd s k (W t))
/-- words that follow from the sixteen before them -/
def Sch (W : Nat → Nat) : Prop := ∀ t, W (t + 16) = add32 (add32 (add32 (W t) (sig0 (W (t + 1)))) (W (t + 9))) (sig1 (W (t + 14)))
theorem Win.next {w0 w1 w2 w3 w4 w5 w6 w7 w8 w9 w10 w11 w12 w13 w14 w15 : Nat} {W : Nat → Nat → Nat} {t : Nat} (h : Win w0 w1 w2 w3 w4 w5 w6 w7 w8 w9 w10 w11 w12 w13 w14 w15 W t) (hW : ∀ i, i < 4096 → Sch (W i)) : Win w1 w2 w3 w4 w5 w6 w7 w8 w9 w10 w11 w12 w13 w14 w15 (nw w0 w1 w9 w14) W (t + 1) := by
  have h1 := ((h.x0.add (h.x1.sg (r := 7) (s := 18) (t := 3) (by decide) (by decide) (by decide))).add (h.x9.add (h.x14.sg (r := 17) (s := 19) (t := 10) (by decide) (by decide) (by decide)))).mask (by decide)
  refine ⟨h.x1, h.x2.congr fun i _ => by rw [show t + 1 + 1 = t + 2 by omega], h.x3.congr fun i _ => by rw [show t + 1 + 2 = t + 3 by omega], h.x4.congr fun i _ => by rw [show t + 1 + 3 = t + 4 by omega], h.x5.congr fun i _ => by rw [show t + 1 + 4 = t + 5 by omega], h.x6.congr fun i _ => by rw [show t + 1 + 5 = t + 6 by omega], h.x7.congr fun i _ => by rw [show t + 1 + 6 = t + 7 by omega], h.x8.congr fun i _ => by rw [show t + 1 + 7 = t + 8 by omega], h.x9.congr fun i _ => by rw [show t + 1 + 8 = t + 9 by omega], h.x10.congr fun i _ => by rw [show t + 1 + 9 = t + 10 by omega], h.x11.congr fun i _ => by rw [show t + 1 + 10 = t + 11 by omega], h.x12.congr fun i _ => by rw [show t + 1 + 11 = t + 12 by omega], h.x13.congr fun i _ => by rw [show t + 1 + 12 = t + 13 by omega], h.x14.congr fun i _ => by rw [show t + 1 + 13 = t + 14 by omega], h.x15.congr fun i _ => by rw [show t + 1 + 14 = t + 15 by omega], ?_⟩
  refine B.congr (V := nw w0 w1 w9 w14) h1 fun i hi => ?_
  try dsimp only
  rw [show t + 1 + 15 = t + 16 by omega, hW i hi t]
  unfold add32 sig0 sig1
  omega
theorem st1_eq (k : Nat) (l : List Nat) (ih : Nat → Nat → Nat → Nat → Nat → Nat → Nat → Nat → Nat → Nat → Nat → Nat → Nat → Nat → Nat → Nat → Nat → Nat → Nat → Nat → Nat → Nat → Nat → Nat → Nat → Nat) (bc a b c d e f g h w0 w1 w2 w3 w4 w5 w6 w7 w8 w9 w10 w11 w12 w13 w14 w15 : Nat) : st1 k l ih bc a b c d e f g h w0 w1 w2 w3 w4 w5 w6 w7 w8 w9 w10 w11 w12 w13 w14 w15 = ih (Nat.xor a b) (A1 (T1 h e f g (Nat.add w0 (Nat.mul On k))) a b (Nat.xor a b) bc) a b c (Bn.ad d (T1 h e f g (Nat.add w0 (Nat.mul On k)))) e f g w1 w2 w3 w4 w5 w6 w7 w8 w9 w10 w11 w12 w13 w14 w15 (nw w0 w1 w9 w14) := rfl
theorem go1_cons (k : Nat) (l : List Nat) : go1 (k :: l) = st1 k l (go1 l) := rfl
theorem go1_nil (bc a b c d e f g h w0 w1 w2 w3 w4 w5 w6 w7 w8 w9 w10 w11 w12 w13 w14 w15 : Nat) : go1 [] bc a b c d e f g h w0 w1 w2 w3 w4 w5 w6 w7 w8 w9 w10 w11 w12 w13 w14 w15 = fin1 a b c d e f g h := rfl
theorem go1_ok (W : Nat → Nat → Nat) (hW : ∀ i, i < 4096 → Sch (W i)) (l : List Nat) : (∀ k ∈ l, k < 4294967296) → ∀ (t : Nat) (A B' C D E F G H w0 w1 w2 w3 w4 w5 w6 w7 w8 w9 w10 w11 w12 w13 w14 w15 : Nat) (s : Nat → St), VS A B' C D E F G H s → Win w0 w1 w2 w3 w4 w5 w6 w7 w8 w9 w10 w11 w12 w13 w14 w15 W t →
    B (go1 l (Nat.xor B' C) A B' C D E F G H w0 w1 w2 w3 w4 w5 w6 w7 w8 w9 w10 w11 w12 w13 w14 w15) (fun i => fF (rl l t (W i) (s i))) 4294967296 := by
  induction l with
  | nil =>
    intro _ t A B' C D E F G H w0 w1 w2 w3 w4 w5 w6 w7 w8 w9 w10 w11 w12 w13 w14 w15 s h _
    rw [go1_nil]
    exact fin1_ok h
  | cons k l ih =>
    intro hl t A B' C D E F G H w0 w1 w2 w3 w4 w5 w6 w7 w8 w9 w10 w11 w12 w13 w14 w15 s h hw
    have hk : B (Nat.add w0 (Nat.mul On k)) (fun i => W i t + k) 8589934592 := hw.x0.add (B.const (m := 4294967296) (hl k (List.mem_cons_self ..)))
    rw [go1_cons, st1_eq]
    exact ih (fun x hx => hl x (List.mem_cons_of_mem _ hx)) (t + 1) _ _ _ _ _ _ _ _ _ _ _ _ _ _ _ _ _ _ _ _ _ _ _ _ (fun i => rnd (s i) k (W i t)) (h.step (w := fun i => W i t) hk) (hw.next hW)
theorem KT_eq : KT = Kt := rfl
theorem Kt_lt : ∀ k ∈ Kt, k < 4294967296 := by decide
theorem word1_ok {w0 w1 w2 w3 w4 w5 w6 w7 w8 w9 w10 w11 w12 w13 w14 w15 : Nat} {W : Nat → Nat → Nat} (hW : ∀ i, i < 4096 → Sch (W i)) (hw : Win w0 w1 w2 w3 w4 w5 w6 w7 w8 w9 w10 w11 w12 w13 w14 w15 W 0) : B (word1 w0 w1 w2 w3 w4 w5 w6 w7 w8 w9 w10 w11 w12 w13 w14 w15) (fun i => fF (rl Kt 0 (W i) iv)) 4294967296 := by
  unfold word1
  rw [KT_eq]
  refine go1_ok W hW Kt Kt_lt 0 _ _ _ _ _ _ _ _ _ _ _ _ _ _ _ _ _ _ _ _ _ _ _ _ (fun _ => iv) ?_ hw
  exact ⟨B.const (by decide), B.const (by decide), B.const (by decide), B.const (by decide), B.const (by decide), B.const (by decide), B.const (by decide), B.const (by decide)⟩
theorem ne_ok {V W : Nat} {f g : Nat → Nat} (h1 : B V f 4294967296) (h2 : B W g 4294967296) (h : ne V W = true) : ∀ i, i < 4096 → f i ≠ g i := by
  have h3 := ((h1.xor h2).add (B.const (k := 4294967295) (m := 4294967296) (by decide))).and0 (k := 4294967296) (by decide) (by decide)
  have h4 : Nat.land (Nat.add (Nat.xor V W) Mm) Hh = Hh := Nat.eq_of_beq_eq_true h
  intro i hi he
  have h5 : pk 4096 (fun i => ((f i ^^^ g i) + 4294967295) &&& 4294967296) = pk 4096 fun _ => 4294967296 := by
    rw [← h3.eq, ← mul_pk]; exact h4
  have h6 := pk_inj _ _ _ (fun i hi => Nat.lt_of_lt_of_le (h3.lt i hi) (by decide)) (fun _ _ => by decide) h5 i hi
  try dsimp only at h6
  rw [he, Nat.xor_self] at h6
  exact absurd h6 (by decide)
end Go.Bn
end
/- SHA-256 of the sectors of texts that count up: the great numbers hold the second words. No program. -/
section
namespace Go.Bn
open Go.Sha Go.Jn
/-- the text's byte -/
def by1 (len b j : Nat) : Nat := if j < len then (b + j) % 256 else 0
def pw (len b t : Nat) : Nat := by1 len b (4 * t) * 16777216 + by1 len b (4 * t + 1) * 65536 + (by1 len b (4 * t + 2) * 256 + by1 len b (4 * t + 3))
theorem iota_B : B (iota 12) (fun i => i) 4096 := ⟨iota_pk 12, fun _ h => h⟩
theorem and255 (x : Nat) : x &&& 255 = x % 256 := Nat.and_two_pow_sub_one_eq_mod x 8
theorem Bv_B : B Bv (fun i => i % 256) 256 := (iota_B.and0 (k := 255) (by decide) (by decide)).congr fun i _ => and255 i
theorem Jv_B : B Jv (fun i => i / 256) 16 := (iota_B.shr (r := 8) (k := 15) (by decide) (by decide) (by decide)).congr fun i hi => by
  try dsimp only
  rw [Nat.shiftRight_eq_div_pow, show 15 = 2 ^ 4 - 1 from rfl, Nat.and_two_pow_sub_one_eq_mod]
  omega
theorem PB_B {len j : Nat} (hj : j < 4096) : B (PB len j) (fun i => by1 len (i % 256) j) 256 := by
  unfold PB by1
  by_cases h : j < len
  · have e : Nat.blt j len = true := by simpa [Nat.blt_eq] using h
    rw [e]
    refine B.congr (V := Nat.land (Nat.add Bv (Nat.mul On j)) (Nat.mul On 255)) ((Bv_B.add (B.const (m := 4096) hj)).and0 (k := 255) (by decide) (by decide)) fun i _ => ?_
    try dsimp only
    rw [and255, if_pos h]
  · have e : Nat.blt j len = false := by
      cases hb : Nat.blt j len with
      | false => rfl
      | true => exact absurd (by simpa [Nat.blt_eq] using hb) h
    rw [e]
    refine B.congr (f := fun _ => 0) ⟨?_, fun _ _ => by decide⟩ fun i _ => by rw [if_neg h]
    show 0 = _
    rw [← mul_pk]; rfl
theorem PW_B {len t : Nat} (ht : t < 16) : B (PW len t) (fun i => pw len (i % 256) t) 4294967296 := by
  have h0 := (PB_B (len := len) (j := 4 * t) (by omega)).mul 16777216 (by decide)
  have h1 := (PB_B (len := len) (j := 4 * t + 1) (by omega)).mul 65536 (by decide)
  have h2 := (PB_B (len := len) (j := 4 * t + 2) (by omega)).mul 256 (by decide)
  have h3 := PB_B (len := len) (j := 4 * t + 3) (by omega)
  have h := (h0.add h1).add (h2.add h3)
  refine ⟨h.eq, fun i hi => ?_⟩
  have a0 := (PB_B (len := len) (j := 4 * t) (by omega)).lt i hi
  have a1 := (PB_B (len := len) (j := 4 * t + 1) (by omega)).lt i hi
  have a2 := (PB_B (len := len) (j := 4 * t + 2) (by omega)).lt i hi
  have a3 := (PB_B (len := len) (j := 4 * t + 3) (by omega)).lt i hi
  unfold pw
  omega
/-- words out of the first sixteen -/
def nextB (w : Nat → Nat) (l : List Nat) (t : Nat) : Nat := if t < 16 then w t else add32 (add32 (add32 (l.getD (t - 16) 0) (sig0 (l.getD (t - 15) 0))) (l.getD (t - 7) 0)) (sig1 (l.getD (t - 2) 0))
def ext (w : Nat → Nat) : Nat → List Nat
  | 0 => []
  | t + 1 => ext w t ++ [nextB w (ext w t) t]
def Wf (w : Nat → Nat) (t : Nat) : Nat := nextB w (ext w t) t
theorem ext_length (w : Nat → Nat) : ∀ n, (ext w n).length = n
  | 0 => rfl
  | n + 1 => by unfold ext; rw [List.length_append, ext_length w n]; rfl
theorem ext_getD (w : Nat → Nat) : ∀ n t, t < n → (ext w n).getD t 0 = Wf w t
  | 0, t, h => by omega
  | n + 1, t, h => by
    unfold ext
    rw [List.getD_eq_getElem?_getD]
    by_cases h1 : t < n
    · rw [List.getElem?_append_left (by rw [ext_length]; exact h1), ← List.getD_eq_getElem?_getD, ext_getD w n t h1]
    · obtain rfl : t = n := by omega
      rw [List.getElem?_append_right (by rw [ext_length]; exact Nat.le_refl _), ext_length]
      simp [Wf]
theorem ext_sch (w : Nat → Nat) : Sch (Wf w) := by
  intro t
  have e := ext_getD w (t + 16)
  conv => lhs; unfold Wf nextB
  rw [if_neg (by omega), show t + 16 - 16 = t by omega, show t + 16 - 15 = t + 1 by omega, show t + 16 - 7 = t + 9 by omega, show t + 16 - 2 = t + 14 by omega, e t (by omega), e (t + 1) (by omega), e (t + 9) (by omega), e (t + 14) (by omega)]
theorem Wf_lo {w : Nat → Nat} {t : Nat} (h : t < 16) : Wf w t = w t := if_pos h
/-- the first block's words -/
def bw (n x len b t : Nat) : Nat := if t = 0 then n * 16777216 else if t = 1 then x else if t < 14 then pw len b (t - 2) else if t = 14 then 2147483648 else 0
/-- the second word of the hash -/
def word2 (n x len b : Nat) : Nat := fF (rl Kt 0 (Wf (bw n x len b)) iv)
theorem hv_B {w1 : Nat} {x : Nat → Nat} {len n : Nat} (h : B w1 x 4294967296) (hn : n < 256) : B (hv w1 len n) (fun i => word2 n (x i) len (i % 256)) 4294967296 := by
  refine word1_ok (W := fun i => Wf (bw n (x i) len (i % 256))) (fun i _ => ext_sch _) ?_
  refine ⟨(B.const (k := n * 16777216) (by omega)).congr fun i _ => ?_, h.congr fun i _ => ?_, (PW_B (t := 0) (by decide)).congr fun i _ => ?_, (PW_B (t := 1) (by decide)).congr fun i _ => ?_, (PW_B (t := 2) (by decide)).congr fun i _ => ?_, (PW_B (t := 3) (by decide)).congr fun i _ => ?_, (PW_B (t := 4) (by decide)).congr fun i _ => ?_, (PW_B (t := 5) (by decide)).congr fun i _ => ?_, (PW_B (t := 6) (by decide)).congr fun i _ => ?_, (PW_B (t := 7) (by decide)).congr fun i _ => ?_, (PW_B (t := 8) (by decide)).congr fun i _ => ?_, (PW_B (t := 9) (by decide)).congr fun i _ => ?_, (PW_B (t := 10) (by decide)).congr fun i _ => ?_, (PW_B (t := 11) (by decide)).congr fun i _ => ?_, (B.const (k := 2147483648) (by decide)).congr fun i _ => ?_, (B.const (k := 0) (by decide)).congr fun i _ => ?_⟩
  all_goals rw [Wf_lo (by omega)]; rfl
theorem brec_and (c x : Bool) : (Bool.rec (motive := fun _ => Bool) false x c) = (c && x) := by cases c <;> rfl
def prL : List (Nat × Nat) := [(1, 3), (1, 5), (1, 9), (2, 3), (2, 6), (2, 10), (3, 7), (3, 11), (4, 5), (4, 6), (4, 12), (5, 7), (6, 7), (8, 9), (8, 10), (8, 12), (9, 11), (10, 11)]
theorem prB_ok {c0 c1 c2 c3 c4 c5 c6 c7 c8 c9 c10 c11 c12 c13 c14 c15 c16 c17 : Bool} (h : prB c0 c1 c2 c3 c4 c5 c6 c7 c8 c9 c10 c11 c12 c13 c14 c15 c16 c17 = true) : c0 = true ∧ c1 = true ∧ c2 = true ∧ c3 = true ∧ c4 = true ∧ c5 = true ∧ c6 = true ∧ c7 = true ∧ c8 = true ∧ c9 = true ∧ c10 = true ∧ c11 = true ∧ c12 = true ∧ c13 = true ∧ c14 = true ∧ c15 = true ∧ c16 = true ∧ c17 = true := by
  unfold prB at h
  simpa only [brec_and, Bool.and_eq_true, Bool.and_true, and_assoc] using h
theorem andB_ok {c x : Bool} (h : andB c x = true) : c = true := by
  unfold andB at h
  rw [brec_and, Bool.and_eq_true] at h
  exact h.1
theorem chk_ok {w1 : Nat} {x : Nat → Nat} {len : Nat} (hx : B w1 x 4294967296) (h : chk w1 len = true) : ∀ p ∈ prL, ∀ i, i < 4096 → word2 p.1 (x i) len (i % 256) ≠ word2 p.2 (x i) len (i % 256) := by
  obtain ⟨h0, h1, h2, h3, h4, h5, h6, h7, h8, h9, h10, h11, h12, h13, h14, h15, h16, h17⟩ := prB_ok (andB_ok h)
  clear h
  intro p hp
  simp only [prL, List.mem_cons, List.not_mem_nil, or_false] at hp
  rcases hp with rfl | rfl | rfl | rfl | rfl | rfl | rfl | rfl | rfl | rfl | rfl | rfl | rfl | rfl | rfl | rfl | rfl | rfl
  · exact ne_ok (hv_B hx (by decide)) (hv_B hx (by decide)) h0
  · exact ne_ok (hv_B hx (by decide)) (hv_B hx (by decide)) h1
  · exact ne_ok (hv_B hx (by decide)) (hv_B hx (by decide)) h2
  · exact ne_ok (hv_B hx (by decide)) (hv_B hx (by decide)) h3
  · exact ne_ok (hv_B hx (by decide)) (hv_B hx (by decide)) h4
  · exact ne_ok (hv_B hx (by decide)) (hv_B hx (by decide)) h5
  · exact ne_ok (hv_B hx (by decide)) (hv_B hx (by decide)) h6
  · exact ne_ok (hv_B hx (by decide)) (hv_B hx (by decide)) h7
  · exact ne_ok (hv_B hx (by decide)) (hv_B hx (by decide)) h8
  · exact ne_ok (hv_B hx (by decide)) (hv_B hx (by decide)) h9
  · exact ne_ok (hv_B hx (by decide)) (hv_B hx (by decide)) h10
  · exact ne_ok (hv_B hx (by decide)) (hv_B hx (by decide)) h11
  · exact ne_ok (hv_B hx (by decide)) (hv_B hx (by decide)) h12
  · exact ne_ok (hv_B hx (by decide)) (hv_B hx (by decide)) h13
  · exact ne_ok (hv_B hx (by decide)) (hv_B hx (by decide)) h14
  · exact ne_ok (hv_B hx (by decide)) (hv_B hx (by decide)) h15
  · exact ne_ok (hv_B hx (by decide)) (hv_B hx (by decide)) h16
  · exact ne_ok (hv_B hx (by decide)) (hv_B hx (by decide)) h17
theorem big_ok {k q : Nat} (hk : k < 256) (hq : q < 1000) (h : big k q = true) : ∀ p ∈ prL, ∀ j b, j < 16 → b < 256 → word2 p.1 (k * 16777216 + ((49 + 16 * q + j) % 256 * 256 + (49 + 16 * q + j) / 256)) 48 b ≠ word2 p.2 (k * 16777216 + ((49 + 16 * q + j) % 256 * 256 + (49 + 16 * q + j) / 256)) 48 b := by
  have h0 : B (Nat.add (Nat.mul On (Nat.add 49 (Nat.mul 16 q))) Jv) (fun i => 49 + 16 * q + i / 256) 20000 := ((B.const (k := 49 + 16 * q) (m := 19000) (by omega)).add Jv_B).mono (by decide)
  have h1 := (h0.and0 (k := 255) (by decide) (by decide)).mul 256 (by decide)
  have h2 := h0.shr (r := 8) (k := 255) (by decide) (by decide) (by decide)
  have h3 := (B.const (k := k * 16777216) (m := 4278190081) (by omega)).add (h1.add h2)
  have h4 := chk_ok (len := 48) (h3.mono (k := 4294967296) (by decide)) h
  intro p hp j b hj hb
  have h5 := h4 p hp (j * 256 + b) (by omega)
  try dsimp only at h5
  rw [show (j * 256 + b) % 256 = b by omega, show (j * 256 + b) / 256 = j by omega, and255, Nat.shiftRight_eq_div_pow, and255, show (49 + 16 * q + j) / 2 ^ 8 % 256 = (49 + 16 * q + j) / 256 by omega] at h5
  exact h5
theorem few_ok {len r : Nat} (hl : len < 256) (hr : r < 16) (h : few len r = true) : ∀ p ∈ prL, ∀ j b, j < 16 → b < 256 → word2 p.1 ((16 * r + j) * 16777216 + len * 256) len b ≠ word2 p.2 ((16 * r + j) * 16777216 + len * 256) len b := by
  have h3 := (B.const (k := r * 268435456 + len * 256) (m := 4026597377) (by omega)).add (Jv_B.mul 16777216 (by decide))
  have h6 : B (Nat.add (Nat.mul On (r * 268435456 + len * 256)) (Nat.mul Jv 16777216)) (fun i => r * 268435456 + len * 256 + i / 256 * 16777216) 4294967296 := ⟨h3.eq, fun i hi => by
    try dsimp only
    omega⟩
  have h4 := chk_ok (len := len) h6 h
  intro p hp j b hj hb
  have h5 := h4 p hp (j * 256 + b) (by omega)
  try dsimp only at h5
  rw [show (j * 256 + b) % 256 = b by omega, show (j * 256 + b) / 256 = j by omega, show r * 268435456 + len * 256 + j * 16777216 = (16 * r + j) * 16777216 + len * 256 by omega] at h5
  exact h5
end Go.Bn
end
