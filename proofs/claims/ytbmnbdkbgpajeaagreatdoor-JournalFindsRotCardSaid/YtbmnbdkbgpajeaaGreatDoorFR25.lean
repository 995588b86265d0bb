/- SHA-256 of a sector's first bytes: its second word, as the great numbers reckon it. No program. -/
import Derived.Test.YtbmnbdkbgpajeaaGreatDoorFR24
import Derived.Test.YtbmnbdkbgpajeaaGreatDoorNX1
import Derived.Test.YtbmnbdkbgpajeaaGreatDoorNX2
import Derived.Test.YtbmnbdkbgpajeaaGreatDoorNX3
import Derived.Test.YtbmnbdkbgpajeaaGreatDoorNX4
import Derived.Test.YtbmnbdkbgpajeaaGreatDoorNX5
import Derived.Test.YtbmnbdkbgpajeaaGreatDoorNX6
import Derived.Test.YtbmnbdkbgpajeaaGreatDoorNX7
import Derived.Test.YtbmnbdkbgpajeaaGreatDoorNX8
import Derived.Test.YtbmnbdkbgpajeaaGreatDoorNX9
import Derived.Test.YtbmnbdkbgpajeaaGreatDoorNX10
import Derived.Test.YtbmnbdkbgpajeaaGreatDoorNX11
import Derived.Test.YtbmnbdkbgpajeaaGreatDoorNX12
import Derived.Test.YtbmnbdkbgpajeaaGreatDoorNX13
import Derived.Test.YtbmnbdkbgpajeaaGreatDoorNX14
import Derived.Test.YtbmnbdkbgpajeaaGreatDoorNX15
import Derived.Test.YtbmnbdkbgpajeaaGreatDoorNX16
import Derived.Test.YtbmnbdkbgpajeaaGreatDoorFR09
/- SHA-256 of a sector's first bytes: its second word, as the great numbers reckon it. No program. -/
section
namespace Go.Bn
open Go.Sha Go.Jn
theorem push8_eq {a b : Nat} (ha : a < 16777216) (hb : b < 256) : push8 a b = a * 256 + b := by
  unfold push8 or32 shl32
  rw [show 2 ^ min 8 32 = 256 from rfl, Nat.mod_eq_of_lt (a := a * 256) (by omega), Nat.mul_comm a 256, show 256 = 2 ^ 8 from rfl, ← Nat.two_pow_add_eq_or_of_lt (i := 8) hb, Nat.mod_eq_of_lt (by omega)]
theorem word_eq (bs : List UInt8) (t : Nat) : word bs t = (bs.getD (4 * t) 0).toNat * 16777216 + (bs.getD (4 * t + 1) 0).toNat * 65536 + ((bs.getD (4 * t + 2) 0).toNat * 256 + (bs.getD (4 * t + 3) 0).toNat) := by
  have h0 := (bs.getD (4 * t) 0).toNat_lt
  have h1 := (bs.getD (4 * t + 1) 0).toNat_lt
  have h2 := (bs.getD (4 * t + 2) 0).toNat_lt
  have h3 := (bs.getD (4 * t + 3) 0).toNat_lt
  unfold word
  generalize (bs.getD (4 * t) 0).toNat = b0 at *
  generalize (bs.getD (4 * t + 1) 0).toNat = b1 at *
  generalize (bs.getD (4 * t + 2) 0).toNat = b2 at *
  generalize (bs.getD (4 * t + 3) 0).toNat = b3 at *
  have e0 : push8 0 b0 = b0 := by rw [push8_eq (by decide) (by omega)]; omega
  have e1 : push8 b0 b1 = b0 * 256 + b1 := push8_eq (by omega) (by omega)
  have e2 : push8 (b0 * 256 + b1) b2 = (b0 * 256 + b1) * 256 + b2 := push8_eq (by omega) (by omega)
  have e3 : push8 ((b0 * 256 + b1) * 256 + b2) b3 = ((b0 * 256 + b1) * 256 + b2) * 256 + b3 := push8_eq (by omega) (by omega)
  rw [e0, e1, e2, e3]
  omega
theorem sched_ext {bs : List UInt8} {w : Nat → Nat} (h : ∀ t, t < 16 → word bs t = w t) : ∀ n, sched bs n = ext w n
  | 0 => rfl
  | n + 1 => by
    unfold sched ext
    rw [sched_ext h n]
    congr 2
    unfold next nextB
    split
    · exact h n (by assumption)
    · rfl
theorem rl_rnds {ws : List Nat} {W : Nat → Nat} (h : ∀ t, t < 64 → ws.getD t 0 = W t) (s : St) : ∀ m t, t + m = 64 → rl (Kt.drop t) t W (rnds ws s t) = rnds ws s 64
  | 0, t, e => by
    obtain rfl : t = 64 := by omega
    rfl
  | m + 1, t, e => by
    have ht : t < Kt.length := by rw [Kt_length]; omega
    rw [List.drop_eq_getElem_cons ht]
    unfold rl
    have e1 : rnd (rnds ws s t) Kt[t] (W t) = rnds ws s (t + 1) := by
      conv => rhs; unfold rnds
      rw [h t (by omega), List.getD_eq_getElem?_getD, List.getElem?_eq_getElem ht]
      rfl
    rw [e1]
    exact rl_rnds h s m (t + 1) (by omega)
theorem fold_rnds (ws : List Nat) (s : St) : ∀ n, (List.range n).foldl (fun s t => rnd s (Kt.getD t 0) (ws.getD t 0)) s = rnds ws s n
  | 0 => rfl
  | n + 1 => by
    rw [List.range_succ, List.foldl_append, fold_rnds ws s n]
    rfl
theorem rnd_kw (s : St) (k w : Nat) : rnd s ((k + w) % 4294967296) 0 = rnd s k w := by
  have e : xF s ((k + w) % 4294967296) 0 = xF s k w := by
    unfold xF add32
    omega
  unfold rnd
  rw [e]
/-- the second block of a text of 56 bytes -/
def blkT : List UInt8 := (tailF 56).drop 8
theorem K2_eq : K2 = (List.range 63).map fun t => (Kt.getD t 0 + (sched blkT 64).getD t 0) % 4294967296 := by decide +kernel
theorem K2_fold (p : St) : K2.foldl (fun s k => rnd s k 0) p = rnds (sched blkT 64) p 63 := by
  rw [K2_eq, List.foldl_map, ← fold_rnds]
  congr 1
  funext s t
  exact rnd_kw _ _ _
theorem fF_eq (s : St) : fF s = ((iv.plus s).plus (rnds (sched blkT 64) (iv.plus s) 64)).b := by
  unfold fF
  rw [K2_fold]
  show add32 _ _ = add32 _ _
  unfold add32
  rw [Nat.add_comm]
  rfl
theorem tail56 : (tailF 56).take 8 = [128, 0, 0, 0, 0, 0, 0, 0] ∧ (tailF 56).length = 72 ∧ blkT.length = 64 := by decide +kernel
theorem chunk0 {m : List UInt8} (h : m.length = 56) : chunk (m ++ tailF m.length) 0 = m ++ [128, 0, 0, 0, 0, 0, 0, 0] := by
  unfold chunk
  rw [h, ← tail56.1, Nat.mul_zero, List.drop_zero, List.take_append, h, List.take_of_length_le (by omega)]
theorem chunk1 {m : List UInt8} (h : m.length = 56) : chunk (m ++ tailF m.length) 1 = blkT := by
  unfold chunk
  rw [h, List.drop_append, List.drop_of_length_le (by omega), List.nil_append, h]
  exact List.take_of_length_le (by rw [show 64 * 1 - 56 = 8 from rfl]; exact Nat.le_of_eq tail56.2.2)
theorem word_second {m : List UInt8} (h : m.length = 56) {n x len b : Nat} (hw : ∀ t, t < 16 → word (m ++ [128, 0, 0, 0, 0, 0, 0, 0]) t = bw n x len b t) : (absorb iv (m ++ tailF m.length) 2).b = word2 n x len b := by
  have e : absorb iv (m ++ tailF m.length) 2 = comp (comp iv (chunk (m ++ tailF m.length) 0)) (chunk (m ++ tailF m.length) 1) := rfl
  rw [e, chunk0 h, chunk1 h]
  unfold word2
  rw [fF_eq]
  have e2 : rl Kt 0 (Wf (bw n x len b)) iv = rnds (sched (m ++ [128, 0, 0, 0, 0, 0, 0, 0]) 64) iv 64 :=
    rl_rnds (ws := sched (m ++ [128, 0, 0, 0, 0, 0, 0, 0]) 64) (fun t ht => by rw [sched_ext hw, ext_getD _ _ _ ht]) iv 64 0 rfl
  rw [e2]
  rfl
/-- what a sector's first bytes are -/
theorem head_cons (n k : Nat) (r : List UInt8) : head n k r = UInt8.ofNat n :: UInt8.ofNat (n / 256) :: UInt8.ofNat (n / 256 / 256) :: UInt8.ofNat (n / 256 / 256 / 256) :: UInt8.ofNat k :: UInt8.ofNat (k / 256) :: UInt8.ofNat r.length :: UInt8.ofNat (r.length / 256) :: (r.take 48 ++ List.replicate (48 - r.length) 0) := rfl
theorem pay_at (r : List UInt8) (b : Nat) (hr : ∀ j, j < 48 → j < r.length → (r.getD j 0).toNat = (b + j) % 256) (T : List UInt8) (j : Nat) (hj : j < 48) : (((r.take 48 ++ List.replicate (48 - r.length) 0) ++ T).getD j 0).toNat = by1 (min r.length 48) b j := by
  unfold by1
  rw [List.append_assoc, List.getD_eq_getElem?_getD]
  by_cases h : j < r.length
  · rw [List.getElem?_append_left (by rw [List.length_take]; omega), List.getElem?_take_of_lt hj, ← List.getD_eq_getElem?_getD, hr j hj h, if_pos (by omega)]
  · rw [List.getElem?_append_right (by rw [List.length_take]; omega), List.length_take, List.getElem?_append_left (by rw [List.length_replicate]; omega), List.getElem?_replicate, if_pos (by omega), if_neg (by omega)]
    rfl
theorem pay_end (r T : List UInt8) (j : Nat) : ((r.take 48 ++ List.replicate (48 - r.length) 0) ++ T).getD (48 + j) 0 = T.getD j 0 := by
  have e : (r.take 48 ++ List.replicate (48 - r.length) (0 : UInt8)).length = 48 := by rw [List.length_append, List.length_take, List.length_replicate]; omega
  rw [List.getD_eq_getElem?_getD, List.getElem?_append_right (by omega), e, show 48 + j - 48 = j by omega, ← List.getD_eq_getElem?_getD]
theorem head_words (n k b : Nat) (r : List UInt8) (hn : n < 256) (hk : k < 256) (hl : r.length < 65536) (hr : ∀ j, j < 48 → j < r.length → (r.getD j 0).toNat = (b + j) % 256) (t : Nat) (ht : t < 16) :
    word (head n k r ++ [128, 0, 0, 0, 0, 0, 0, 0]) t = bw n (k * 16777216 + (r.length % 256 * 256 + r.length / 256)) (min r.length 48) b t := by
  rw [word_eq, head_cons]
  simp only [List.cons_append]
  have hp := pay_at r b hr [128, 0, 0, 0, 0, 0, 0, 0]
  have he := pay_end r [128, 0, 0, 0, 0, 0, 0, 0]
  generalize (r.take 48 ++ List.replicate (48 - r.length) 0) ++ [128, 0, 0, 0, 0, 0, 0, 0] = q at hp he
  rcases (show t = 0 ∨ t = 1 ∨ (2 ≤ t ∧ t < 14) ∨ t = 14 ∨ t = 15 by omega) with rfl | rfl | ⟨h1, h2⟩ | rfl | rfl
  · show (UInt8.ofNat n).toNat * 16777216 + (UInt8.ofNat (n / 256)).toNat * 65536 + ((UInt8.ofNat (n / 256 / 256)).toNat * 256 + (UInt8.ofNat (n / 256 / 256 / 256)).toNat) = n * 16777216
    simp only [UInt8.toNat_ofNat']
    omega
  · show (UInt8.ofNat k).toNat * 16777216 + (UInt8.ofNat (k / 256)).toNat * 65536 + ((UInt8.ofNat r.length).toNat * 256 + (UInt8.ofNat (r.length / 256)).toNat) = k * 16777216 + (r.length % 256 * 256 + r.length / 256)
    simp only [UInt8.toNat_ofNat']
    omega
  · obtain ⟨u, rfl⟩ : ∃ u, t = u + 2 := ⟨t - 2, by omega⟩
    rw [show 4 * (u + 2) = 4 * u + 8 by omega, show 4 * u + 8 + 1 = 4 * u + 1 + 8 by omega, show 4 * u + 8 + 2 = 4 * u + 2 + 8 by omega, show 4 * u + 8 + 3 = 4 * u + 3 + 8 by omega]
    simp only [List.getD_cons_succ]
    rw [hp _ (by omega), hp _ (by omega), hp _ (by omega), hp _ (by omega)]
    unfold bw
    rw [if_neg (by omega), if_neg (by omega), if_pos (by omega)]
    rfl
  · show ((q.getD 48 0).toNat * 16777216 + (q.getD 49 0).toNat * 65536 + ((q.getD 50 0).toNat * 256 + (q.getD 51 0).toNat)) = 2147483648
    rw [he 0, he 1, he 2, he 3]
    rfl
  · show ((q.getD 52 0).toNat * 16777216 + (q.getD 53 0).toNat * 65536 + ((q.getD 54 0).toNat * 256 + (q.getD 55 0).toNat)) = 0
    rw [he 4, he 5, he 6, he 7]
    rfl
theorem head_second (n k b : Nat) (r : List UInt8) (hn : n < 256) (hk : k < 256) (hl : r.length < 65536) (hr : ∀ j, j < 48 → j < r.length → (r.getD j 0).toNat = (b + j) % 256) :
    (absorb iv (head n k r ++ tailF (head n k r).length) 2).b = word2 n (k * 16777216 + (r.length % 256 * 256 + r.length / 256)) (min r.length 48) b :=
  word_second (head_length n k r) (head_words n k b r hn hk hl hr)
theorem outF_at (s : St) (j : Nat) (hj : j < 4) : ((outF s).take 8).getD (4 + j) 0 = UInt8.ofNat (shr32 s.b (24 - 8 * j)) := by
  rw [List.getD_eq_getElem?_getD, List.getElem?_take_of_lt (by omega)]
  unfold outF
  rw [List.getElem?_map, List.getElem?_range (by omega), Option.map_some, Option.getD_some, show (4 + j) / 4 = 1 by omega, show (4 + j) % 4 = j by omega]
  rfl
theorem add32_lt' (a b : Nat) : add32 a b < 4294967296 := Nat.mod_lt _ (by decide)
/-- equal first bytes of hashes: equal second words -/
theorem take8_second {m m' : List UInt8} (h : m.length = 56) (h' : m'.length = 56) (e : (sha m).take 8 = (sha m').take 8) : (absorb iv (m ++ tailF m.length) 2).b = (absorb iv (m' ++ tailF m'.length) 2).b := by
  have key : ∀ q : List UInt8, q.length = 56 → ∀ j, j < 4 → ((sha q).take 8).getD (4 + j) 0 = UInt8.ofNat (shr32 (absorb iv (q ++ tailF q.length) 2).b (24 - 8 * j)) := by
    intro q hq j hj
    have e1 : sha q = outF (absorb iv (q ++ tailF q.length) 2) := by
      unfold sha
      rw [show (q ++ tailF q.length).length / 64 = 2 by rw [List.length_append, hq, tail56.2.1]]
    rw [e1]
    exact outF_at _ j hj
  have lt : ∀ q : List UInt8, q.length = 56 → (absorb iv (q ++ tailF q.length) 2).b < 4294967296 := fun q _ => add32_lt' _ _
  have h1 := lt m h
  have h2 := lt m' h'
  have k0 := (key m h 0 (by decide)).symm.trans ((congrArg (fun l => List.getD l (4 + 0) 0) e).trans (key m' h' 0 (by decide)))
  have k1 := (key m h 1 (by decide)).symm.trans ((congrArg (fun l => List.getD l (4 + 1) 0) e).trans (key m' h' 1 (by decide)))
  have k2 := (key m h 2 (by decide)).symm.trans ((congrArg (fun l => List.getD l (4 + 2) 0) e).trans (key m' h' 2 (by decide)))
  have k3 := (key m h 3 (by decide)).symm.trans ((congrArg (fun l => List.getD l (4 + 3) 0) e).trans (key m' h' 3 (by decide)))
  generalize (absorb iv (m ++ tailF m.length) 2).b = x at *
  generalize (absorb iv (m' ++ tailF m'.length) 2).b = y at *
  have f0 := congrArg UInt8.toNat k0
  have f1 := congrArg UInt8.toNat k1
  have f2 := congrArg UInt8.toNat k2
  have f3 := congrArg UInt8.toNat k3
  simp only [UInt8.toNat_ofNat', shr32, Nat.mul_zero, Nat.sub_zero, Nat.mul_one, Nat.reduceMul, Nat.reduceSub] at f0 f1 f2 f3
  rw [show min 24 32 = 24 from rfl] at f0
  rw [show min 16 32 = 16 from rfl] at f1
  rw [show min 8 32 = 8 from rfl] at f2
  rw [show min 0 32 = 0 from rfl] at f3
  omega
end Go.Bn
end
/- All of the reckoning. No program. -/
section
namespace Go.Bn
theorem big_all : ∀ k, k < 98 → ∀ j, j < 294 - 3 * k → big k j = true := by
  refine stepL ?_ big_97
  refine stepL ?_ big_96
  refine stepL ?_ big_95
  refine stepL ?_ big_94
  refine stepL ?_ big_93
  refine stepL ?_ big_92
  refine stepL ?_ big_91
  refine stepL ?_ big_90
  refine stepL ?_ big_89
  refine stepL ?_ big_88
  refine stepL ?_ big_87
  refine stepL ?_ big_86
  refine stepL ?_ big_85
  refine stepL ?_ big_84
  refine stepL ?_ big_83
  refine stepL ?_ big_82
  refine stepL ?_ big_81
  refine stepL ?_ big_80
  refine stepL ?_ big_79
  refine stepL ?_ big_78
  refine stepL ?_ big_77
  refine stepL ?_ big_76
  refine stepL ?_ big_75
  refine stepL ?_ big_74
  refine stepL ?_ big_73
  refine stepL ?_ big_72
  refine stepL ?_ big_71
  refine stepL ?_ big_70
  refine stepL ?_ big_69
  refine stepL ?_ big_68
  refine stepL ?_ big_67
  refine stepL ?_ big_66
  refine stepL ?_ big_65
  refine stepL ?_ big_64
  refine stepL ?_ big_63
  refine stepL ?_ big_62
  refine stepL ?_ big_61
  refine stepL ?_ big_60
  refine stepL ?_ big_59
  refine stepL ?_ big_58
  refine stepL ?_ big_57
  refine stepL ?_ big_56
  refine stepL ?_ big_55
  refine stepL ?_ big_54
  refine stepL ?_ big_53
  refine stepL ?_ big_52
  refine stepL ?_ big_51
  refine stepL ?_ big_50
  refine stepL ?_ big_49
  refine stepL ?_ big_48
  refine stepL ?_ big_47
  refine stepL ?_ big_46
  refine stepL ?_ big_45
  refine stepL ?_ big_44
  refine stepL ?_ big_43
  refine stepL ?_ big_42
  refine stepL ?_ big_41
  refine stepL ?_ big_40
  refine stepL ?_ big_39
  refine stepL ?_ big_38
  refine stepL ?_ big_37
  refine stepL ?_ big_36
  refine stepL ?_ big_35
  refine stepL ?_ big_34
  refine stepL ?_ big_33
  refine stepL ?_ big_32
  refine stepL ?_ big_31
  refine stepL ?_ big_30
  refine stepL ?_ big_29
  refine stepL ?_ big_28
  refine stepL ?_ big_27
  refine stepL ?_ big_26
  refine stepL ?_ big_25
  refine stepL ?_ big_24
  refine stepL ?_ big_23
  refine stepL ?_ big_22
  refine stepL ?_ big_21
  refine stepL ?_ big_20
  refine stepL ?_ big_19
  refine stepL ?_ big_18
  refine stepL ?_ big_17
  refine stepL ?_ big_16
  refine stepL ?_ big_15
  refine stepL ?_ big_14
  refine stepL ?_ big_13
  refine stepL ?_ big_12
  refine stepL ?_ big_11
  refine stepL ?_ big_10
  refine stepL ?_ big_9
  refine stepL ?_ big_8
  refine stepL ?_ big_7
  refine stepL ?_ big_6
  refine stepL ?_ big_5
  refine stepL ?_ big_4
  refine stepL ?_ big_3
  refine stepL ?_ big_2
  refine stepL ?_ big_1
  refine stepL ?_ big_0
  exact none0
theorem few_all : ∀ l, l < 49 → ∀ j, j < 7 → (l = 0 → j = 0) → few l j = true := by
  refine stepL ?_ (fun j hj _ => few_48 j hj)
  refine stepL ?_ (fun j hj _ => few_47 j hj)
  refine stepL ?_ (fun j hj _ => few_46 j hj)
  refine stepL ?_ (fun j hj _ => few_45 j hj)
  refine stepL ?_ (fun j hj _ => few_44 j hj)
  refine stepL ?_ (fun j hj _ => few_43 j hj)
  refine stepL ?_ (fun j hj _ => few_42 j hj)
  refine stepL ?_ (fun j hj _ => few_41 j hj)
  refine stepL ?_ (fun j hj _ => few_40 j hj)
  refine stepL ?_ (fun j hj _ => few_39 j hj)
  refine stepL ?_ (fun j hj _ => few_38 j hj)
  refine stepL ?_ (fun j hj _ => few_37 j hj)
  refine stepL ?_ (fun j hj _ => few_36 j hj)
  refine stepL ?_ (fun j hj _ => few_35 j hj)
  refine stepL ?_ (fun j hj _ => few_34 j hj)
  refine stepL ?_ (fun j hj _ => few_33 j hj)
  refine stepL ?_ (fun j hj _ => few_32 j hj)
  refine stepL ?_ (fun j hj _ => few_31 j hj)
  refine stepL ?_ (fun j hj _ => few_30 j hj)
  refine stepL ?_ (fun j hj _ => few_29 j hj)
  refine stepL ?_ (fun j hj _ => few_28 j hj)
  refine stepL ?_ (fun j hj _ => few_27 j hj)
  refine stepL ?_ (fun j hj _ => few_26 j hj)
  refine stepL ?_ (fun j hj _ => few_25 j hj)
  refine stepL ?_ (fun j hj _ => few_24 j hj)
  refine stepL ?_ (fun j hj _ => few_23 j hj)
  refine stepL ?_ (fun j hj _ => few_22 j hj)
  refine stepL ?_ (fun j hj _ => few_21 j hj)
  refine stepL ?_ (fun j hj _ => few_20 j hj)
  refine stepL ?_ (fun j hj _ => few_19 j hj)
  refine stepL ?_ (fun j hj _ => few_18 j hj)
  refine stepL ?_ (fun j hj _ => few_17 j hj)
  refine stepL ?_ (fun j hj _ => few_16 j hj)
  refine stepL ?_ (fun j hj _ => few_15 j hj)
  refine stepL ?_ (fun j hj _ => few_14 j hj)
  refine stepL ?_ (fun j hj _ => few_13 j hj)
  refine stepL ?_ (fun j hj _ => few_12 j hj)
  refine stepL ?_ (fun j hj _ => few_11 j hj)
  refine stepL ?_ (fun j hj _ => few_10 j hj)
  refine stepL ?_ (fun j hj _ => few_9 j hj)
  refine stepL ?_ (fun j hj _ => few_8 j hj)
  refine stepL ?_ (fun j hj _ => few_7 j hj)
  refine stepL ?_ (fun j hj _ => few_6 j hj)
  refine stepL ?_ (fun j hj _ => few_5 j hj)
  refine stepL ?_ (fun j hj _ => few_4 j hj)
  refine stepL ?_ (fun j hj _ => few_3 j hj)
  refine stepL ?_ (fun j hj _ => few_2 j hj)
  refine stepL ?_ (fun j hj _ => few_1 j hj)
  refine stepL ?_ (fun j hj h0 => few_0 j (by have := h0 rfl; omega))
  exact none0
end Go.Bn
end
/- No two sectors of texts that count up, with numbers that differ in one bit, have the same first bytes of their hashes. No program. -/
section
namespace Go.Bn
open Go.Sha Go.Jn
theorem prL_lt : ∀ p ∈ prL, p.1 < 13 ∧ p.2 < 13 := by decide
theorem no_coll {p : Nat × Nat} (hp : p ∈ prL) {k b : Nat} {r : List UInt8} (hk : 48 * k + r.length ≤ 4752) (h0 : r.length = 0 → k = 0) (hb : b < 256) (hr : ∀ j, j < 48 → j < r.length → (r.getD j 0).toNat = (b + j) % 256) :
    (sha (head p.1 k r)).take 8 ≠ (sha (head p.2 k r)).take 8 := by
  intro he
  obtain ⟨hp1, hp2⟩ := prL_lt p hp
  have h1 := take8_second (head_length _ _ _) (head_length _ _ _) he
  rw [head_second p.1 k b r (by omega) (by omega) (by omega) hr, head_second p.2 k b r (by omega) (by omega) (by omega) hr] at h1
  revert h1
  generalize r.length = L at *
  clear hr he
  by_cases hL : L ≤ 48
  · have hf := few_ok (len := L) (r := k / 16) (by omega) (by omega) (few_all L (by omega) (k / 16) (by omega) fun h => by have := h0 h; omega) p hp (k % 16) b (by omega) hb
    rw [show 16 * (k / 16) + k % 16 = k by omega] at hf
    rw [show L % 256 * 256 + L / 256 = L * 256 by omega, show min L 48 = L by omega]
    exact hf
  · have hf := big_ok (k := k) (q := (L - 49) / 16) (by omega) (by omega) (big_all k (by omega) ((L - 49) / 16) (by omega)) p hp ((L - 49) % 16) b (by omega) hb
    rw [show 49 + 16 * ((L - 49) / 16) + (L - 49) % 16 = L by omega] at hf
    rw [show min L 48 = 48 by omega]
    exact hf
end Go.Bn
end
/- A bit of a record's sector rots: the sector is not good, or it is another record's; and it never is another record's. No program. -/
section
namespace Go.Jn
open Go.Disk Go.Sha Go.Own
theorem flip_ne (b : UInt8) (m : Nat) (hm : m < 8) : b ^^^ (1 <<< UInt8.ofNat m) ≠ b := by
  intro h
  have h1 := congrArg (b ^^^ ·) h
  simp only [← UInt8.xor_assoc, UInt8.xor_self, UInt8.zero_xor] at h1
  clear h
  revert h1
  revert m
  decide
theorem rotT_length (bit : Nat) (t : List UInt8) : (rotT bit t).length = t.length := by unfold rotT; rw [List.length_modify]
theorem rotT_other {bit j : Nat} (t : List UInt8) (h : j ≠ bit / 8) : (rotT bit t)[j]? = t[j]? := by
  unfold rotT
  rw [List.getElem?_modify]
  simp [show ¬ bit / 8 = j from fun e => h e.symm]
theorem rotT_at {bit : Nat} (t : List UInt8) : (rotT bit t)[bit / 8]? = (t[bit / 8]?).map fun b => b ^^^ (1 <<< (UInt8.ofNat (bit % 8))) := by
  unfold rotT
  rw [List.getElem?_modify]
  simp
theorem rotT_ne {bit : Nat} {t : List UInt8} (h : bit / 8 < t.length) : rotT bit t ≠ t := by
  intro e
  have h1 := rotT_at (bit := bit) t
  rw [e, List.getElem?_eq_getElem h] at h1
  simp only [Option.map_some, Option.some.injEq] at h1
  exact flip_ne _ _ (Nat.mod_lt _ (by decide)) h1.symm
/-- bytes away from the bit -/
theorem rotT_part {bit : Nat} (t : List UInt8) (i c : Nat) (h : bit / 8 < i ∨ i + c ≤ bit / 8) : ((rotT bit t).drop i).take c = (t.drop i).take c := by
  refine List.ext_getElem? fun j => ?_
  rw [List.getElem?_take, List.getElem?_take]
  split
  · rw [List.getElem?_drop, List.getElem?_drop, rotT_other _ (by omega)]
  · rfl
theorem sect_tail (n : Nat) (t : List UInt8) (k : Nat) : ((sect n t k).drop 56).take 8 = (sha (head n k (t.drop (48 * k)))).take 8 := by
  have e : (head n k (t.drop (48 * k))).length = 56 := head_length _ _ _
  unfold sect stamp
  rw [List.drop_append, List.drop_of_length_le (Nat.le_of_eq e), e, List.nil_append, List.drop_zero, List.take_take, Nat.min_self]
theorem head_congr {n k : Nat} {r r' : List UInt8} (h1 : r.length = r'.length) (h2 : r.take 48 = r'.take 48) : head n k r = head n k r' := by unfold head; rw [h1, h2]
/-- what a packed sector says of itself -/
theorem sect_says {n : Nat} {t : List UInt8} {k : Nat} (hn : n ≤ 4096) (ht : t.length ≤ 8000) (hk : k < cntN t.length) : numOf (sect n t k) = n ∧ prtOf (sect n t k) = k ∧ leftOf (sect n t k) = t.length - 48 * k ∧ ((sect n t k).drop 8).take 48 = (t.drop (48 * k)).take 48 ++ List.replicate (48 - (t.length - 48 * k)) 0 := by
  obtain ⟨c1, c2, _⟩ := cntN_lt ht hk
  have c0 := (cntN_pos ht).2
  have hd : (t.drop (48 * k)).length = t.length - 48 * k := List.length_drop
  obtain ⟨a1, a2, a3, a4⟩ := num_head n k (t.drop (48 * k)) (by omega) (by omega) (by omega)
  obtain ⟨b1, b2, b3⟩ := of_head (sect_head n t k)
  rw [a1] at b1
  rw [a2] at b2
  rw [a3, hd] at b3
  refine ⟨b1, b2, b3, ?_⟩
  rw [take_head (sect_head n t k) 8 48 (by omega), a4, hd]
  refine List.take_of_length_le ?_
  rw [List.length_append, List.length_take, List.length_replicate, hd]
  omega
theorem pair_all : ((List.range 13).all fun n => (List.range 13).all fun m => (List.range 8).all fun i => !(decide (1 ≤ n) && decide (1 ≤ m) && decide (UInt8.ofNat m = UInt8.ofNat n ^^^ (1 <<< UInt8.ofNat i))) || (Bn.prL.contains (n, m) || Bn.prL.contains (m, n))) = true := by decide +kernel
theorem pair_of (n : Nat) (hn : n < 13) (m : Nat) (hm : m < 13) (i : Nat) (hi : i < 8) (h1 : 1 ≤ n) (h2 : 1 ≤ m) (h : UInt8.ofNat m = UInt8.ofNat n ^^^ (1 <<< UInt8.ofNat i)) : (n, m) ∈ Bn.prL ∨ (m, n) ∈ Bn.prL := by
  have a := pair_all
  rw [List.all_eq_true] at a
  have a := a n (List.mem_range.2 hn)
  rw [List.all_eq_true] at a
  have a := a m (List.mem_range.2 hm)
  rw [List.all_eq_true] at a
  have a := a i (List.mem_range.2 hi)
  rw [decide_eq_true h1, decide_eq_true h2, decide_eq_true h] at a
  simpa using a
/-- a text that counts up -/
def Up (t : List UInt8) : Prop := ∃ f : UInt8, ∀ j, j < t.length → t.getD j 0 = f + UInt8.ofNat j
theorem Up.rest {t : List UInt8} (h : Up t) (k : Nat) : ∃ b, b < 256 ∧ ∀ j, j < 48 → j < (t.drop (48 * k)).length → ((t.drop (48 * k)).getD j 0).toNat = (b + j) % 256 := by
  obtain ⟨f, hf⟩ := h
  refine ⟨(f.toNat + 48 * k) % 256, by omega, fun j _ h2 => ?_⟩
  rw [List.length_drop] at h2
  have e : (t.drop (48 * k)).getD j 0 = t.getD (48 * k + j) 0 := by rw [List.getD_eq_getElem?_getD, List.getD_eq_getElem?_getD, List.getElem?_drop]
  rw [e, hf _ (by omega), UInt8.toNat_add, UInt8.toNat_ofNat']
  omega
/-- the sectors that texts take -/
def secs (ts : List (List UInt8)) : Nat := (ts.map fun t => cntN t.length).sum
theorem two_le : ∀ (l : List (List UInt8)) (i j : Nat), (hij : i < j) → (hj : j < l.length) → (∀ t ∈ l, t.length ≤ 8000) → cntN (l[i]'(by omega)).length + cntN l[j].length + l.length ≤ secs l + 2
  | [], _, _, _, hj, _ => by simp at hj
  | t :: l, 0, j + 1, _, hj, h => by
    have hj' : j < l.length := by simpa using hj
    have key : ∀ (l : List (List UInt8)) (j : Nat) (hj : j < l.length), (∀ t ∈ l, t.length ≤ 8000) → cntN l[j].length + l.length ≤ secs l + 1 := by
      intro l
      induction l with
      | nil => intro j hj; simp at hj
      | cons x l ih =>
        intro j hj h
        have h1 := (cntN_pos (h x (List.mem_cons_self ..))).1
        have all : ∀ (l : List (List UInt8)), (∀ t ∈ l, t.length ≤ 8000) → l.length ≤ secs l := by
          intro l
          induction l with
          | nil => intro _; exact Nat.zero_le _
          | cons x l ih =>
            intro h
            have h1 := (cntN_pos (h x (List.mem_cons_self ..))).1
            have h2 := ih fun t ht => h t (List.mem_cons_of_mem _ ht)
            unfold secs at h2 ⊢
            rw [List.map_cons, List.sum_cons, List.length_cons]
            omega
        cases j with
        | zero =>
          have h2 := all l fun t ht => h t (List.mem_cons_of_mem _ ht)
          unfold secs at h2 ⊢
          rw [List.map_cons, List.sum_cons, List.length_cons, List.getElem_cons_zero]
          omega
        | succ j =>
          have h2 := ih j (by simpa using hj) fun t ht => h t (List.mem_cons_of_mem _ ht)
          unfold secs at h2 ⊢
          rw [List.map_cons, List.sum_cons, List.length_cons, List.getElem_cons_succ]
          omega
    have h2 := key l j hj' fun t ht => h t (List.mem_cons_of_mem _ ht)
    unfold secs at h2 ⊢
    rw [List.map_cons, List.sum_cons]
    simp only [List.getElem_cons_zero, List.getElem_cons_succ, List.length_cons]
    omega
  | t :: l, i + 1, j + 1, hij, hj, h => by
    have h1 := (cntN_pos (h t (List.mem_cons_self ..))).1
    have h2 := two_le l i j (by omega) (by simpa using hj) fun t ht => h t (List.mem_cons_of_mem _ ht)
    unfold secs at h2 ⊢
    rw [List.map_cons, List.sum_cons]
    simp only [List.getElem_cons_succ, List.length_cons]
    omega
theorem cnt_le {n : Nat} (h : n ≤ 8000) (h2 : cntN n ≤ 99) : n ≤ 4752 := by
  have := (cntN_lt h (k := cntN n - 1) (by have := (cntN_pos h).1; omega)).2.2.1
  omega
/-- a rotten sector is none of the records' sectors -/
theorem rot_not {ts : List (List UInt8)} {n k bit : Nat} {t : List UInt8} (h12 : ts.length ≤ 12) (h200 : secs ts ≤ 200) (h8 : ∀ t ∈ ts, t.length ≤ 8000) (hup : ∀ t ∈ ts, Up t) (hn1 : 1 ≤ n) (hn2 : n ≤ ts.length) (ht : ts[n - 1]? = some t) (hk : k < cntN t.length) (hb : bit < 512)
    (m i : Nat) (x : List UInt8) (hm1 : 1 ≤ m) (hm2 : m ≤ ts.length) (hx : ts[m - 1]? = some x) (hi : i < cntN x.length) : rotT bit (sect n t k) ≠ sect m x i := by
  intro he
  have ht8 := h8 t (List.mem_of_getElem? ht)
  have hx8 := h8 x (List.mem_of_getElem? hx)
  have hl : (sect n t k).length = 64 := sect_length _ _ _
  have hne : sect m x i ≠ sect n t k := by rw [← he]; exact rotT_ne (by omega)
  obtain ⟨s1, s2, s3, s4⟩ := sect_says (n := n) (by omega) ht8 hk
  obtain ⟨r1, r2, r3, r4⟩ := sect_says (n := m) (by omega) hx8 hi
  obtain ⟨c1, c2, c3, c4⟩ := cntN_lt ht8 hk
  obtain ⟨d1, d2, d3, d4⟩ := cntN_lt hx8 hi
  have part := fun a c h => rotT_part (bit := bit) (sect n t k) a c h
  rw [he] at part
  by_cases h56 : 56 ≤ bit / 8
  · apply hne
    have e := part 0 56 (.inr (by omega))
    rw [List.drop_zero, List.drop_zero, sect_head, sect_head] at e
    unfold sect
    rw [e]
  · have htail := part 56 8 (.inl (by omega))
    rw [sect_tail, sect_tail] at htail
    by_cases hmn : m = n
    · subst hmn
      rw [ht] at hx
      obtain rfl : t = x := by simpa using hx
      by_cases hki : i = k
      · subst hki; exact hne rfl
      · by_cases h45 : bit / 8 < 6
        · have e := part 6 2 (.inl h45)
          have e2 : leftOf (sect m t i) = leftOf (sect m t k) := by unfold leftOf; rw [e]
          rw [s3, r3] at e2
          omega
        · have e := part 4 2 (.inr (by omega))
          have e2 : prtOf (sect m t i) = prtOf (sect m t k) := by unfold prtOf; rw [e]
          rw [s2, r2] at e2
          exact hki e2
    · have h4 : bit / 8 < 4 := by
        refine Nat.lt_of_not_le fun h => hmn ?_
        have e := part 0 4 (.inr (by omega))
        have e2 : numOf (sect m x i) = numOf (sect n t k) := by unfold numOf; simpa using congrArg num e
        rw [s1, r1] at e2
        exact e2
      have e1 : prtOf (sect m x i) = prtOf (sect n t k) := by unfold prtOf; rw [part 4 2 (.inl h4)]
      have e2 : leftOf (sect m x i) = leftOf (sect n t k) := by unfold leftOf; rw [part 6 2 (.inl (by omega))]
      have e3 := part 8 48 (.inl (by omega))
      rw [s2, r2] at e1
      subst e1
      rw [s3, r3] at e2
      rw [s4, r4, e2] at e3
      have e4 : (x.drop (48 * i)).take 48 = (t.drop (48 * i)).take 48 := (List.append_inj_left' e3 (by simp))
      have hlen : (x.drop (48 * i)).length = (t.drop (48 * i)).length := by rw [List.length_drop, List.length_drop]; exact e2
      have hxt : x.length = t.length := by omega
      rw [head_congr (n := m) (k := i) hlen e4] at htail
      have h0 : bit / 8 = 0 := by
        refine Nat.eq_zero_of_not_pos fun h => hmn ?_
        have e := part 0 1 (.inr (by omega))
        rw [List.drop_zero, List.drop_zero] at e
        have f1 : ∀ q y j, (sect q y j).take 1 = [UInt8.ofNat q] := fun q y j => by
          have := congrArg (List.take 1) (sect_head q y j)
          rw [List.take_take, Bn.head_cons] at this
          exact this
        rw [f1, f1] at e
        have e5 := congrArg (fun l => (l.getD 0 0).toNat) e
        simp only [List.getD_cons_zero, UInt8.toNat_ofNat'] at e5
        omega
      have hpr : (n, m) ∈ Bn.prL ∨ (m, n) ∈ Bn.prL := by
        refine pair_of n (by omega) m (by omega) (bit % 8) (Nat.mod_lt _ (by decide)) hn1 hm1 ?_
        have h1 := rotT_at (bit := bit) (sect n t i)
        rw [he, h0] at h1
        have f1 : ∀ q y j, (sect q y j)[0]? = some (UInt8.ofNat q) := fun q y j => by
          have := congrArg (fun l => l[0]?) (sect_head q y j)
          try dsimp only at this
          rw [List.getElem?_take_of_lt (by decide), Bn.head_cons] at this
          exact this
        rw [f1, f1] at h1
        simpa using h1
      have h3 : 3 ≤ ts.length := by
        have : ∀ p ∈ Bn.prL, 3 ≤ p.2 := by decide
        rcases hpr with h | h
        · have := this _ h; dsimp only at this; omega
        · have := this _ h; dsimp only at this; omega
      have hcnt : cntN t.length ≤ 99 := by
        have g1 : n - 1 < ts.length := by omega
        have g2 : m - 1 < ts.length := by omega
        rw [List.getElem?_eq_getElem g1] at ht
        rw [List.getElem?_eq_getElem g2] at hx
        simp only [Option.some.injEq] at ht hx
        rcases Nat.lt_or_gt_of_ne hmn with h | h
        · have := two_le ts (m - 1) (n - 1) (by omega) g1 h8
          rw [ht, hx, hxt] at this; omega
        · have := two_le ts (n - 1) (m - 1) (by omega) g2 h8
          rw [ht, hx, hxt] at this; omega
      have h4752 := cnt_le ht8 hcnt
      obtain ⟨b, hb1, hb2⟩ := (hup t (List.mem_of_getElem? ht)).rest i
      have hdl : (t.drop (48 * i)).length = t.length - 48 * i := List.length_drop
      rcases hpr with h | h
      · exact Bn.no_coll h (k := i) (b := b) (r := t.drop (48 * i)) (by omega) (fun h => c2 (by omega)) hb1 hb2 htail.symm
      · exact Bn.no_coll h (k := i) (b := b) (r := t.drop (48 * i)) (by omega) (fun h => c2 (by omega)) hb1 hb2 htail
end Go.Jn
end
