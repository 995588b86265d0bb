/- SHA-256 of 4096 messages at once: numbers of 32 bits side by side in one great number, 64 bits for each. Definitions. No program. -/
namespace Go.Bn
noncomputable section
/-- the rounds' constants -/
def KT : List Nat := [1116352408, 1899447441, 3049323471, 3921009573, 961987163, 1508970993, 2453635748, 2870763221, 3624381080, 310598401, 607225278, 1426881987, 1925078388, 2162078206, 2614888103, 3248222580, 3835390401, 4022224774, 264347078, 604807628, 770255983, 1249150122, 1555081692, 1996064986, 2554220882, 2821834349, 2952996808, 3210313671, 3336571891, 3584528711, 113926993, 338241895, 666307205, 773529912, 1294757372, 1396182291, 1695183700, 1986661051, 2177026350, 2456956037, 2730485921, 2820302411, 3259730800, 3345764771, 3516065817, 3600352804, 4094571909, 275423344, 430227734, 506948616, 659060556, 883997877, 958139571, 1322822218, 1537002063, 1747873779, 1955562222, 2024104815, 2227730452, 2361852424, 2428436474, 2756734187, 3204031479, 3329325298]
def ones : Nat → Nat
  | 0 => 1
  | i + 1 => (fun y => Nat.add y (Nat.shiftLeft y (Nat.mul 64 (Nat.pow 2 i)))) (ones i)
/-- 0, 1, .., 2^n - 1 -/
def iota : Nat → Nat
  | 0 => 0
  | i + 1 => (fun y => Nat.add y (Nat.shiftLeft (Nat.add y (Nat.mul (ones i) (Nat.pow 2 i))) (Nat.mul 64 (Nat.pow 2 i)))) (iota i)
def On : Nat := ones 12
def Mm : Nat := Nat.mul On 4294967295
def Hh : Nat := Nat.mul On 4294967296
/-- the first byte of a lane's text -/
def Bv : Nat := Nat.land (iota 12) (Nat.mul On 255)
/-- the sixteen messages of one first byte -/
def Jv : Nat := Nat.land (Nat.shiftRight (iota 12) 8) (Nat.mul On 15)
def Sg (r s t x : Nat) : Nat := (fun y => Nat.land (Nat.xor (Nat.xor (Nat.shiftRight y r) (Nat.shiftRight y s)) (Nat.shiftRight y t)) Mm) (Nat.mul x 4294967297)
def sg (r s t x : Nat) : Nat := (fun y => Nat.land (Nat.xor (Nat.xor (Nat.shiftRight y r) (Nat.shiftRight y s)) (Nat.shiftRight x t)) Mm) (Nat.mul x 4294967297)
def T1 (h e f g kw : Nat) : Nat := Nat.add (Nat.add (Nat.add h (Sg 6 11 25 e)) (Nat.xor g (Nat.land e (Nat.xor f g)))) kw
def A1 (t a b ab bc : Nat) : Nat := Nat.land (Nat.add (Nat.add t (Sg 2 13 22 a)) (Nat.xor b (Nat.land ab bc))) Mm
def ad (x y : Nat) : Nat := Nat.land (Nat.add x y) Mm
def nw (w0 w1 w9 w14 : Nat) : Nat := Nat.land (Nat.add (Nat.add w0 (sg 7 18 3 w1)) (Nat.add w9 (sg 17 19 10 w14))) Mm
def st2 (k : Nat) (_ : List Nat) (ih : Nat → Nat → Nat → Nat → Nat → Nat → Nat → Nat → Nat → Nat) (bc a b c d e f g h : Nat) : Nat := (fun t ab => ih ab (A1 t a b ab bc) a b c (ad d t) e f g) (T1 h e f g (Nat.mul On k)) (Nat.xor a b)
def go2 (l : List Nat) : Nat → Nat → Nat → Nat → Nat → Nat → Nat → Nat → Nat → Nat := List.rec (motive := fun _ => Nat → Nat → Nat → Nat → Nat → Nat → Nat → Nat → Nat → Nat) (fun _ a _ _ _ _ _ _ _ => a) st2 l
/-- the second block's words and the round's constants together -/
def K2 : List Nat := [1116352408, 1899447441, 3049323471, 3921009573, 961987163, 1508970993, 2453635748, 2870763221, 3624381080, 310598401, 607225278, 1426881987, 1925078388, 2162078206, 2614888103, 3248223028, 3835390401, 4036380550, 264347078, 604821571, 770255983, 1751770295, 1555082140, 2465847542, 2582532434, 3392951297, 2953038637, 3603535790, 716409896, 3736225882, 1396677915, 591581744, 2242624329, 275915938, 380118253, 418151520, 1563406242, 465755204, 4197198771, 2138652164, 3006480791, 3777317601, 412851218, 2357841639, 1879552395, 1018018693, 621430818, 2872124696, 1158303443, 13132699, 3325307288, 3418649235, 2049058666, 788237445, 1661915629, 3859848591, 1028110950, 3998022584, 1577465327, 2529848997, 1544448704, 646972621, 2838023793]
def blk2 (a b c d e f g h : Nat) : Nat := ad (go2 K2 (Nat.xor b c) a b c d e f g h) b
def fin1 (a b c d e f g h : Nat) : Nat := blk2 (ad a (Nat.mul On 1779033703)) (ad b (Nat.mul On 3144134277)) (ad c (Nat.mul On 1013904242)) (ad d (Nat.mul On 2773480762)) (ad e (Nat.mul On 1359893119)) (ad f (Nat.mul On 2600822924)) (ad g (Nat.mul On 528734635)) (ad h (Nat.mul On 1541459225))
def st1 (k : Nat) (_ : List Nat) (ih : Nat → Nat → Nat → Nat → Nat → Nat → Nat → Nat → Nat → Nat → Nat → Nat → Nat → Nat → Nat → Nat → Nat → Nat → Nat → Nat → Nat → Nat → Nat → Nat → Nat → Nat) (bc a b c d e f g h w0 w1 w2 w3 w4 w5 w6 w7 w8 w9 w10 w11 w12 w13 w14 w15 : Nat) : Nat := (fun t ab => ih ab (A1 t a b ab bc) a b c (ad d t) e f g w1 w2 w3 w4 w5 w6 w7 w8 w9 w10 w11 w12 w13 w14 w15 (nw w0 w1 w9 w14)) (T1 h e f g (Nat.add w0 (Nat.mul On k))) (Nat.xor a b)
def go1 (l : List Nat) : Nat → Nat → Nat → Nat → Nat → Nat → Nat → Nat → Nat → Nat → Nat → Nat → Nat → Nat → Nat → Nat → Nat → Nat → Nat → Nat → Nat → Nat → Nat → Nat → Nat → Nat := List.rec (motive := fun _ => Nat → Nat → Nat → Nat → Nat → Nat → Nat → Nat → Nat → Nat → Nat → Nat → Nat → Nat → Nat → Nat → Nat → Nat → Nat → Nat → Nat → Nat → Nat → Nat → Nat → Nat) (fun _ a b c d e f g h _ _ _ _ _ _ _ _ _ _ _ _ _ _ _ _ => fin1 a b c d e f g h) st1 l
def word1 (w0 w1 w2 w3 w4 w5 w6 w7 w8 w9 w10 w11 w12 w13 w14 w15 : Nat) : Nat := go1 KT (Nat.xor (Nat.mul On 3144134277) (Nat.mul On 1013904242)) (Nat.mul On 1779033703) (Nat.mul On 3144134277) (Nat.mul On 1013904242) (Nat.mul On 2773480762) (Nat.mul On 1359893119) (Nat.mul On 2600822924) (Nat.mul On 528734635) (Nat.mul On 1541459225) w0 w1 w2 w3 w4 w5 w6 w7 w8 w9 w10 w11 w12 w13 w14 w15
/-- the text's byte j, if there are so many -/
def PB (len j : Nat) : Nat := Bool.rec 0 (Nat.land (Nat.add Bv (Nat.mul On j)) (Nat.mul On 255)) (Nat.blt j len)
def PW (len t : Nat) : Nat := Nat.add (Nat.add (Nat.mul (PB len (Nat.mul 4 t)) 16777216) (Nat.mul (PB len (Nat.add (Nat.mul 4 t) 1)) 65536)) (Nat.add (Nat.mul (PB len (Nat.add (Nat.mul 4 t) 2)) 256) (PB len (Nat.add (Nat.mul 4 t) 3)))
/-- the second word of the hashes of the sectors with number n -/
def hv (w1 len n : Nat) : Nat := word1 (Nat.mul On (Nat.mul n 16777216)) w1 (PW len 0) (PW len 1) (PW len 2) (PW len 3) (PW len 4) (PW len 5) (PW len 6) (PW len 7) (PW len 8) (PW len 9) (PW len 10) (PW len 11) (Nat.mul On 2147483648) (Nat.mul On 0)
def ne (x y : Nat) : Bool := Nat.beq (Nat.land (Nat.add (Nat.xor x y) Mm) Hh) Hh
/-- Small numbers that stay at the memory's end: the great ones' memory is then used again and not given back (that costs time, no more). -/
def pin : Bool := Nat.rec true (fun i r => Bool.rec false r (Nat.beq (Nat.shiftRight (Nat.shiftLeft 1 (Nat.mul 64 (Nat.succ i))) (Nat.mul 64 (Nat.succ i))) 1)) 126
def prB (c0 c1 c2 c3 c4 c5 c6 c7 c8 c9 c10 c11 c12 c13 c14 c15 c16 c17 : Bool) : Bool := Bool.rec false (Bool.rec false (Bool.rec false (Bool.rec false (Bool.rec false (Bool.rec false (Bool.rec false (Bool.rec false (Bool.rec false (Bool.rec false (Bool.rec false (Bool.rec false (Bool.rec false (Bool.rec false (Bool.rec false (Bool.rec false (Bool.rec false (Bool.rec false (true) c17) c16) c15) c14) c13) c12) c11) c10) c9) c8) c7) c6) c5) c4) c3) c2) c1) c0
def prs (v1 v2 v3 v4 v5 v6 v7 v8 v9 v10 v11 v12 : Nat) : Bool := prB (ne v1 v3) (ne v1 v5) (ne v1 v9) (ne v2 v3) (ne v2 v6) (ne v2 v10) (ne v3 v7) (ne v3 v11) (ne v4 v5) (ne v4 v6) (ne v4 v12) (ne v5 v7) (ne v6 v7) (ne v8 v9) (ne v8 v10) (ne v8 v12) (ne v9 v11) (ne v10 v11)
def andB (c x : Bool) : Bool := Bool.rec false x c
def chk (w1 len : Nat) : Bool := andB (prs (hv w1 len 1) (hv w1 len 2) (hv w1 len 3) (hv w1 len 4) (hv w1 len 5) (hv w1 len 6) (hv w1 len 7) (hv w1 len 8) (hv w1 len 9) (hv w1 len 10) (hv w1 len 11) (hv w1 len 12)) pin
/-- sectors of part k with 49 + 16 q and up to 15 more bytes left -/
def big (k q : Nat) : Bool := (fun x => chk (Nat.add (Nat.mul On (Nat.mul k 16777216)) (Nat.add (Nat.mul (Nat.land x (Nat.mul On 255)) 256) (Nat.land (Nat.shiftRight x 8) (Nat.mul On 255)))) 48) (Nat.add (Nat.mul On (Nat.add 49 (Nat.mul 16 q))) Jv)
/-- sectors of part 16 p and up to 15 further ones with len bytes left -/
def few (len p : Nat) : Bool := chk (Nat.add (Nat.mul On (Nat.add (Nat.mul p 268435456) (Nat.mul len 256))) (Nat.mul Jv 16777216)) len
end
end Go.Bn
