/- journal: the law JournalReadsAnything, walked. -/
import Derived.Test.YtbmnbdkbgpajeaaGreatDoorZe28
import Derived.Test.YtbmnbdkbgpajeaaGreatDoorZe29
import Derived.Test.YtbmnbdkbgpajeaaGreatDoorZe24
import Derived.Test.YtbmnbdkbgpajeaaGreatDoorZe27
import Derived.Test.YtbmnbdkbgpajeaaGreatDoorZe22
/- journal: the law JournalReadsAnything, walked. -/
section
namespace Go.Jn
open Go.Disk
/-- the power is on, and no trip is set -/
def On (d : DS) : Prop := d.off = false ∧ d.left = -1
theorem On.write {d : DS} (h : On d) (i : Int) (b : List UInt8) : On (awrite d i b).2 := by
  obtain ⟨h1, h2⟩ := h
  have hs : astep d = (0, d) := by unfold astep; rw [if_neg (by omega), if_neg (by omega)]
  unfold awrite
  split
  · exact ⟨h1, h2⟩
  · split
    · exact ⟨h1, h2⟩
    · rw [hs, if_neg (by simp)]
      exact ⟨h1, h2⟩
end Go.Jn
namespace Go.Proofs.YtbmnbdkbgpajeaaGreatDoor
open Go.RowKit Go.Own Go.Jn Go.Disk Go.BigFrame Go.Sha
attribute [local irreducible] SqW
attribute [local go_sem] setCell_twice str_size op_str_eql op_str_neq
/-- a disk and the reference's, both of the call's own and with the same content -/
structure Bo (w W : World) (f : Ft) (r : Rt) (d : DS) : Prop where
  pd : PD W f d
  rd : RD W r d
  b : Below w.heap.size w W
  hf : ∀ x ∈ f.all, w.heap.size ≤ x
  hr : ∀ x ∈ r.all, w.heap.size ≤ x
  dis : ∀ x ∈ f.all, x ∉ r.all
theorem Bo.below {w W W' : World} {f : Ft} {r : Rt} {d : DS} (h : Bo w W f r d) (hb : Below W.heap.size W W') : Bo w W' f r d :=
  ⟨h.pd.below hb, h.rd.below hb, h.b.trans (hb.mono h.b.size), h.hf, h.hr, h.dis⟩
set_option maxRecDepth 100000 in
set_option maxHeartbeats 4000000 in
theorem readsAnything_any (w : World) (l : List (List UInt8)) (sa : Option Addr) (ca : Nat) (hl : Sl w 1 (.slice sa l.length ca) l.length (l.map str))
    (hK : Cells w 2 0 (Kt.map U)) (h1 : 2 < w.heap.size) (hR : Cells w 0 0 (Kt.map U)) (h0 : 0 < w.heap.size) :
    Calls Tryz.prog 3 #[.slice sa l.length ca] w fun e w' => e = .returned (.bool true) ∧ Below w.heap.size w w' := by
  by_cases a1 : 40 < l.length
  · have q1 : ((40 : Int) < l.length) = True := eq_true (by omega)
    go_enter Tryz.func3, Tryz.ntmps3
    go_wp2_with fail
    refine (sanity_any w hK h1).mono ?_
    rintro e w1 ⟨rfl, b1⟩
    go_wp2
    go_ret
    exact ⟨rfl, b1⟩
  have q1 : ((40 : Int) < l.length) = False := eq_false (by omega)
  by_cases a2 : l.length = 0
  · have q2 : ((l.length : Int) == 0) = true := by simp [a2]
    go_enter Tryz.func3, Tryz.ntmps3
    go_wp2_with fail
    refine (sanity_any w hK h1).mono ?_
    rintro e w1 ⟨rfl, b1⟩
    go_wp2
    go_ret
    exact ⟨rfl, b1⟩
  have q2 : ((l.length : Int) == 0) = false := by rw [beq_eq_false_iff_ne]; omega
  have hn1 : 1 ≤ l.length := by omega
  have hn4 : l.length ≤ 40 := by omega
  clear a1 a2
  have HK := Lib.hid hK; clear hK
  have HL1 := Lib.hid h1; clear h1
  have HR := Lib.hid hR; clear hR
  have HL0 := Lib.hid h0; clear h0
  have HS := Lib.hid hl; clear hl
  obtain ⟨n, hn⟩ : ∃ n, n = l.length := ⟨_, rfl⟩
  rw [← hn] at q1 q2 hn1 hn4 HS ⊢
  have HN := Lib.hid hn; clear hn
  go_enter Tryz.func3, Tryz.ntmps3
  go_wp2_with fail
  refine (new_any n hn1 (by omega) w).mono ?_
  rintro e w1 ⟨f, rfl, hP1, hf1, b1⟩
  have HP1 := Lib.hid hP1; clear hP1
  have HF1 := Lib.hid hf1; clear hf1
  have HB1 := Lib.hid b1; clear b1
  go_wp2_with fail
  refine (rnew_any n hn1 (by omega) w1).mono ?_
  rintro e w2 ⟨r, rfl, hR2, hr2, b2⟩
  have hB : Bo w w2 f r (Disk.fresh n) := ⟨HP1.out.below b2, hR2, HB1.out.trans (b2.mono HB1.out.size), HF1.out, fun x hx => Nat.le_trans HB1.out.size (hr2 x hx), fun x hx hm => by have := HP1.out.lt x hx; have := hr2 x hm; omega⟩
  have HBO := Lib.hid hB; clear hB hR2 hr2 b2 HP1 HF1 HB1
  have HON : Hid (On (Disk.fresh n)) := Lib.hid ⟨rfl, rfl⟩
  go_wp2
  go_loopw [42] (fun c wr => ∃ (k : Nat) (d : DS), k ≤ n ∧ c = .int .i64 k ∧ Hid (Bo w wr f r d) ∧ Hid (On d)) (fun c _ => n - (jInt c).toNat)
  case atStart => exact ⟨0, _, Nat.zero_le _, rfl, HBO, HON⟩
  case round =>
    clear HBO HON
    obtain ⟨k, d, hk, rfl, HB, HO⟩ := hrel
    by_cases hkl : k < n
    · have hki : ((k : Int) < n) = True := eq_true (by omega)
      obtain ⟨b, off, rfl, _, _, hC, hlt⟩ := sl_cases HS.out (by omega)
      obtain ⟨s, hs⟩ : ∃ s, s = l[k]'(by rw [← HN.out]; exact hkl) := ⟨_, rfl⟩
      have hkl2 : k < l.length := by rw [← HN.out]; exact hkl
      have cx : wr.cell? ⟨b, off + k, none⟩ = some (str s) := (hC.below HB.out.b hlt) k _ (by simp [hkl2, hs])
      have HSS := Lib.hid hs; clear hs hC
      go_wp2_with fail
      refine (write_any f d (k : Int) s wr HB.out.pd).mono ?_
      rintro e w3 ⟨rfl, hP3, hc3⟩
      have hR3 := HB.out.rd.chg hc3 fun x hx hm => HB.out.dis x hm hx
      have HP3 := Lib.hid hP3; clear hP3
      have HC3 := Lib.hid hc3; clear hc3
      have HR3 := Lib.hid hR3; clear hR3
      go_wp2_with fail
      refine (rwrite_any r d (k : Int) s w3 HR3.out).mono ?_
      rintro e w4 ⟨rfl, hR4, hc4⟩
      have hb3 := HB.out.b.trans (HC3.out.below HB.out.b.size HB.out.hf)
      have hB4 : Bo w w4 f r (awrite d (k : Int) s).2 := ⟨HP3.out.chg hc4 HB.out.dis, hR4, hb3.trans (hc4.below hb3.size HB.out.hr), HB.out.hf, HB.out.hr, HB.out.dis⟩
      have HB4 := Lib.hid hB4; clear hB4 hb3 hR4 hc4 HP3 HC3 HR3
      have HO4 := Lib.hid (HO.out.write (k : Int) s)
      go_wp2
      go_roundw
      case rel => exact ⟨k + 1, _, by omega, by go_num, HB4, HO4⟩
      case measure => simp [jInt]; omega
    · obtain rfl : n = k := by omega
      have hki : ((n : Int) < n) = False := eq_false (by omega)
      have ho := open_any f d wr HB.out.pd HO.out.1 (HK.out.below HB.out.b HL1.out) (Nat.lt_of_lt_of_le HL1.out HB.out.b.size)
      have HOP := Lib.hid ho; clear ho
      go_wp2_with fail
      refine HOP.out.mono ?_
      rintro e w2 ⟨J, rfl, hJ, _, b2⟩
      have HB2 := Lib.hid (HB.out.below b2)
      have HJ2 := Lib.hid hJ; clear hJ b2 HOP HB
      have ho := ropen_any r d w2 HB2.out.rd HO.out.1 (HR.out.below HB2.out.b HL0.out) (Nat.lt_of_lt_of_le HL0.out HB2.out.b.size)
      have HOP := Lib.hid ho; clear ho
      go_wp2_with fail
      refine HOP.out.mono ?_
      rintro e w3 ⟨R, rfl, hR3, _, b3⟩
      have HB3 := Lib.hid (HB2.out.below b3)
      have HJ3 := Lib.hid (HJ2.out.below b3)
      have HR3 := Lib.hid hR3; clear hR3 b3 HOP HB2 HJ2
      go_wp2_with fail
      refine (sanity_any w3 (HK.out.below HB3.out.b HL1.out) (Nat.lt_of_lt_of_le HL1.out HB3.out.b.size)).mono ?_
      rintro e w4 ⟨rfl, b4⟩
      have HB4 := Lib.hid (HB3.out.below b4)
      have HJ4 := Lib.hid (HJ3.out.below b4)
      have HR4 := Lib.hid (HR3.out.below b4); clear b4 HB3 HJ3 HR3
      go_wp2_with fail
      refine (same_any w4 f r J R _ d HJ4.out HB4.out.pd HR4.out HB4.out.rd).mono ?_
      rintro e w5 ⟨rfl, b5⟩
      have HBE := Lib.hid (HB4.out.b.trans (b5.mono HB4.out.b.size)); clear b5
      go_wp2
      go_ret
      exact ⟨rfl, HBE.out⟩
end Go.Proofs.YtbmnbdkbgpajeaaGreatDoor
end
/- journal: the reference: Pack (under way). -/
section
namespace Go.Proofs.YtbmnbdkbgpajeaaGreatDoor
open Go.RowKit Go.Own Go.Jn Go.Disk Go.BigFrame Go.Sha
attribute [local irreducible] SqW
attribute [local go_sem] setCell_twice str_size op_str_eql op_str_neq
theorem own_news {w : World} {base n : Nat} {e : TypeId} {v : Value} {xs : List Value} (h : w.ownsRow base e 1 v n xs) (hn : 0 < n) : ∃ g c, v = .slice (some ⟨g, 0, none⟩) n c ∧ base ≤ g ∧ g < w.heap.size ∧ ∀ j u, xs[j]? = some u → w.cell? ((⟨g, 0, none⟩ : Addr).add j) = some u := by
  have hs := Sl.of_owns h
  obtain ⟨hl, h2 | ⟨g, cap, cur, rfl, hg, hgg, rest⟩⟩ := h
  · obtain ⟨_, h0⟩ := h2
    omega
  · obtain ⟨_, ⟨h2, h3⟩ | ⟨b, off, cap', h2, h3, h4, h5, h6⟩⟩ := hs
    · omega
    · injection h2 with h2 _ _
      injection h2 with h2
      injection h2 with e1 e2 _
      subst e1
      subst e2
      refine ⟨_, _, rfl, hg, h6, fun j u hj => ?_⟩
      have hadd : ∀ g : Nat, (⟨g, 0, none⟩ : Addr).add j = ⟨g, j, none⟩ := fun g => by unfold Addr.add; split <;> simp_all
      rw [hadd]
      have := h5 j u hj
      rwa [Nat.zero_add] at this
def padK (rest : List UInt8) (p : Nat) : List UInt8 := (List.range p).map fun i => rest.getD i 0
theorem padK_in {rest : List UInt8} {p : Nat} (h : p < rest.length) : padK rest (p + 1) = padK rest p ++ [rest[p]] := by
  unfold padK
  rw [List.range_succ, List.map_append, List.map_cons, List.map_nil, List.getD_eq_getElem?_getD, List.getElem?_eq_getElem h]
  rfl
theorem padK_out {rest : List UInt8} {p : Nat} (h : ¬ p < rest.length) : padK rest (p + 1) = padK rest p ++ [0] := by
  unfold padK
  rw [List.range_succ, List.map_append, List.map_cons, List.map_nil, List.getD_eq_getElem?_getD, List.getElem?_eq_none (by omega)]
  rfl
theorem padK_48 (rest : List UInt8) : padK rest 48 = rest.take 48 ++ List.replicate (48 - rest.length) 0 := by
  unfold padK
  apply List.ext_getElem?
  intro i
  by_cases hi : i < 48
  · rw [List.getElem?_map, List.getElem?_range hi, Option.map_some]
    by_cases hr : i < rest.length
    · rw [List.getElem?_append_left (by rw [List.length_take]; omega), List.getElem?_take_of_lt hi, List.getD_eq_getElem?_getD, List.getElem?_eq_getElem hr]
      rfl
    · rw [List.getElem?_append_right (by rw [List.length_take]; omega), List.length_take, List.getElem?_replicate, if_pos (by omega), List.getD_eq_getElem?_getD, List.getElem?_eq_none (by omega)]
      rfl
  · rw [List.getElem?_eq_none (by simp; omega), List.getElem?_eq_none (by simp; omega)]
theorem cut48 {t : List UInt8} {q : Nat} (h : q < cntN t.length) (h8 : t.length ≤ 8000) : 48 * q ≤ t.length := by
  unfold cntN at h
  rw [if_neg (by omega)] at h
  split at h <;> omega
theorem slice_strL (W : World) (bs : List UInt8) (lo : Nat) (h2 : lo ≤ bs.length) : (Instr.slice 9 (str bs) (some (.int .i64 (lo : Int))) none none).run Tryz.prog W = .ok (str (bs.drop lo)) W := by
  rw [run_slice_string_l (ht := hTs) (h0 := by omega) (h1 := by rw [str_size]; omega)]
  congr 2
  apply ByteArray.ext
  simp
  exact List.take_of_length_le (by rw [List.length_drop]; exact Nat.le_of_eq (by simp [ByteArray.size]))
set_option maxRecDepth 100000 in
set_option maxHeartbeats 1600000 in
theorem rpack_ok (w : World) (n : Nat) (t : List UInt8) (hn : 1 ≤ n ∧ n ≤ 4096) (ht : t.length ≤ 8000) (hK : Cells w 0 0 (Kt.map U)) (h0 : 0 < w.heap.size) :
    Calls Tryz.prog 60 #[.int .i64 n, str t] w fun e w' => ∃ v, e = .returned (.tuple #[v, .int .i64 0]) ∧ w'.ownsRow w.heap.size 9 1 v (cntN t.length) ((pack n t).map str) ∧ Below w.heap.size w w' := by
  have hni : ¬ (n : Int) < 1 := by omega
  have hnj : ¬ (4096 : Int) < (n : Int) := by omega
  have hti : ¬ (8000 : Int) < (t.length : Int) := by omega
  have HCN : Hid (∀ W, Calls Tryz.prog 56 #[.int .i64 (t.length : Int)] W fun e w' => e = .returned (.int .i64 (cntN t.length : Int)) ∧ w' = W) := Lib.hid fun W => by
    have := rcount_any (t.length : Int) W
    have e : cntI (t.length : Int) = (cntN t.length : Int) := by unfold cntI; rw [if_neg (by omega)]; simp
    rw [e] at this
    exact this
  have hc2 := cntN_le (n := t.length) ht
  have hcut : ∀ q, q < cntN t.length → 48 * q ≤ t.length := fun q h => cut48 h ht
  have HCUT := Lib.hid hcut; clear hcut
  obtain ⟨c, hc⟩ : ∃ c, c = cntN t.length := ⟨_, rfl⟩
  rw [← hc] at HCN HCUT hc2 ⊢
  have HC := Lib.hid hc; clear hc
  obtain ⟨B, hB⟩ : ∃ B, B = w.heap.size := ⟨_, rfl⟩
  rw [← hB]
  have HB := Lib.hid hB; clear hB
  go_enter Tryz.func60, Tryz.ntmps60
  go_wp2_with fail
  go_loopw [6, 7] (fun v x wr => ∃ q : Nat, q ≤ c ∧ x = .int .i64 q ∧ Hid (wr.ownsRow B 9 1 v q (((List.range q).map (sect n t)).map str)) ∧ Hid (Below B w wr)) (fun _ x _ => c - (jInt x).toNat)
  case atStart => exact ⟨0, Nat.zero_le _, rfl, Lib.hid (World.ownsRow_nil _ _ _ _), Lib.hid (Below.refl _ _)⟩
  case round =>
    obtain ⟨q, hq, rfl, hR, hW⟩ := hrel
    obtain ⟨so, co, rfl, _⟩ := own_slice hR.out
    have hsz : B ≤ wr.heap.size := by have := hW.out.size; have := HB.out; omega
    by_cases hlt : q < c
    · have hlc : (q : Int) < c := by omega
      have h48 := HCUT.out q hlt
      obtain ⟨rest, hrest⟩ : ∃ r, r = t.drop (48 * q) := ⟨_, rfl⟩
      have hsl : ∀ W, (Instr.slice 9 (str t) (some (.int .i64 (48 * (q : Int)))) none none).run Tryz.prog W = .ok (str rest) W := fun W => by
        have := slice_strL W t (48 * q) h48
        rw [← hrest] at this
        rw [show (48 * (q : Int)) = ((48 * q : Nat) : Int) by omega]
        exact this
      have hrl : rest.length ≤ 8000 := by rw [hrest, List.length_drop]; omega
      have HREST := Lib.hid hrest; clear hrest
      go_wp2_with (refine (HCN.out _).mono ?_; rintro e w2 ⟨rfl, hw2⟩; subst hw2)
      have hbw : Below w2.heap.size w2 w2 := Below.refl _ _
      refine (small_any w2 n 4 (by decide) (by omega)).mono ?_
      rintro e w3 ⟨v3, rfl, o3, b3⟩
      obtain ⟨s3, c3, rfl, _⟩ := own_slice o3
      have O3 := Lib.hid o3; clear o3
      have B3 := Lib.hid b3; clear b3 hbw
      go_wp2_with fail
      refine (small_any w3 q 2 (by decide) (by omega)).mono ?_
      rintro e w4 ⟨v4, rfl, o4, b4⟩
      obtain ⟨A, hA⟩ : ∃ A, A = w2.heap.size := ⟨_, rfl⟩
      obtain ⟨i, hi1, hi2, hi3, hi4⟩ := info_parts infoU8k
      have HI := Lib.hid (show i.zero = some (.int .u8 0) ∧ i.size = 1 ∧ i.bytes = 1 from ⟨hi2, hi3, hi4⟩)
      have HI1 := Lib.hid hi1; clear hi1 hi2 hi3 hi4
      have r4 := own_below O3.out b4
      have z4 : A ≤ w4.heap.size := by have h1 := B3.out.size; have h2 := b4.size; omega
      have x4 : Below A w2 w4 := by rw [hA]; exact B3.out.trans (b4.mono B3.out.size)
      rw [← hA] at r4
      obtain ⟨g4, c4, rfl, _, _, nw4⟩ := own_news o4 (by decide)
      have R4 := Lib.hid r4; clear r4 O3 B3
      have X4 := Lib.hid x4; clear x4 b4
      have N4 := Lib.hid nw4; clear nw4 o4
      have HA := Lib.hid hA; clear hA
      go_wp2_with (refine wpList_append_lies _ rfl _ _ 81 rfl A 5 i (.int .u8 0) 1 1 hTu8k HI1.out HI.out.1 HI.out.2.1 HI.out.2.2 rfl (by decide) _ 4 _ rfl R4.out ⟨g4, 0, none⟩ 2 c4 ((le 2 q).map byv) rfl (by simp [le_length]) N4.out (bytes_oneCell _) (by decide) (by unfold maxLen; omega) (by omega) z4 _ rfl ?_)
      intro g5 p5 w5 m1 m2 m3 m4
      have x5 : Below A w2 w5 := grown_below (base := A) X4.out R4.out m2 z4
      have M5 := Lib.hid m1; clear m1 m2 m3 R4 N4
      have X5 := Lib.hid x5; clear x5 X4
      go_wp2_with fail
      refine (small_any w5 rest.length 2 (by decide) (by omega)).mono ?_
      rintro e w6 ⟨v6, rfl, o6, b6⟩
      have r6 := own_below M5.out b6
      have z6 : A ≤ w6.heap.size := by have h1 := X5.out.size; have h2 := b6.size; have := HA.out; omega
      have x6 : Below A w2 w6 := X5.out.trans (b6.mono (by have h1 := X5.out.size; have := HA.out; omega))
      obtain ⟨g6, c6, rfl, _, _, nw6⟩ := own_news o6 (by decide)
      have R6 := Lib.hid r6; clear r6 M5
      have X6 := Lib.hid x6; clear x6 b6 X5
      have N6 := Lib.hid nw6; clear nw6 o6
      go_wp2_with (refine wpList_append_lies _ rfl _ _ 81 rfl A 5 i (.int .u8 0) 1 1 hTu8k HI1.out HI.out.1 HI.out.2.1 HI.out.2.2 rfl (by decide) _ (4 + 2) _ rfl R6.out ⟨g6, 0, none⟩ 2 c6 ((le 2 rest.length).map byv) rfl (by simp [le_length]) N6.out (bytes_oneCell _) (by decide) (by unfold maxLen; omega) (by omega) z6 _ rfl ?_)
      intro g7 p7 w7 m1 m2 m3 m4
      have x7 : Below A w2 w7 := grown_below (base := A) X6.out R6.out m2 z6
      have M7 := Lib.hid m1; clear m1 m2 m3 R6 N6
      have X7 := Lib.hid x7; clear x7 X6
      go_wp2_with fail
      obtain ⟨hd, hhd⟩ : ∃ hd, hd = le 4 n ++ (le 2 q ++ le 2 rest.length) := ⟨_, rfl⟩
      have y7 : w7.ownsRow A 5 1 (.slice (some ⟨g7, 0, none⟩) (4 + 2 + 2) p7) (8 + 0) ((hd ++ padK rest 0).map byv) := by
        have := M7.out
        rw [← List.map_append, ← List.map_append] at this
        first | rw [List.append_assoc] at this | skip
        rw [hhd, show padK rest 0 = [] from rfl, List.append_nil]
        exact this
      have Y7 := Lib.hid y7; clear y7 M7
      have HHD := Lib.hid hhd; clear hhd
      go_loopw [9, 10] (fun v x wi => ∃ p : Nat, p ≤ 48 ∧ x = .int .i64 p ∧ Hid (wi.ownsRow A 5 1 v (8 + p) ((hd ++ padK rest p).map byv)) ∧ Hid (Below A w2 wi)) (fun _ x _ => 48 - (jInt x).toNat)
      case atStart => exact ⟨0, by omega, rfl, Y7, X7⟩
      case round =>
        clear Y7 X7
        obtain ⟨p, hp, rfl, hRb, hWb⟩ := hrel
        obtain ⟨sb, cb, rfl, _⟩ := own_slice hRb.out
        have zi : A ≤ wr.heap.size := by have h1 := hWb.out.size; have := HA.out; omega
        by_cases hpl : p < 48
        · have hpi : (p : Int) < 48 := by omega
          by_cases hpr : p < rest.length
          · have hpj : (p : Int) < rest.length := by omega
            obtain ⟨u, hu⟩ : ∃ u, u = rest[p] := ⟨_, rfl⟩
            have hix := fun W => str_index W rest p u hpr (by rw [hu, List.getD_eq_getElem?_getD, List.getElem?_eq_getElem hpr]; rfl)
            have hps := padK_in (p := p) hpr
            rw [← hu] at hps
            have HPS := Lib.hid hps; clear hps hu
            go_wp2_with (refine wpList_append_lies _ rfl _ _ 81 rfl A 5 i (.int .u8 0) 1 1 hTu8k HI1.out HI.out.1 HI.out.2.1 HI.out.2.2 rfl (by decide) _ (8 + p) _ rfl (own_below hRb.out (alloc_below _ _)) ⟨wr.heap.size, 0, none⟩ 1 1 [_] rfl rfl (World.news_of_block (Blk.new wr _ 5)) (by intro u hu; simp at hu; rw [hu]; rfl) (by decide) (by unfold maxLen; omega) (by omega) (by simp; omega) _ rfl ?_)
            intro g9 p9 w9 m1 m2 m3 m4
            have x9 : Below A w2 w9 := grown_below (base := A) (hWb.out.alloc (by have := HA.out; omega) _) (own_below hRb.out (alloc_below wr _)) m2 (by simp; omega)
            have y9 : w9.ownsRow A 5 1 (.slice (some ⟨g9, 0, none⟩) (8 + p + 1) p9) (8 + (p + 1)) ((hd ++ padK rest (p + 1)).map byv) := by
              rw [HPS.out, List.map_append, List.map_append]
              exact m1
            have X9 := Lib.hid x9; clear x9
            have Y9 := Lib.hid y9; clear y9 m1 m2 m3 hRb hWb
            go_wp2
            go_roundw
            case rel => exact ⟨p + 1, by omega, by go_num, Y9, X9⟩
            case measure => simp [jInt]; omega
          · have hpj : ¬ (p : Int) < rest.length := by omega
            have hps := padK_out (p := p) hpr
            have HPS := Lib.hid hps; clear hps
            go_wp2_with (refine wpList_append_lies _ rfl _ _ 81 rfl A 5 i (.int .u8 0) 1 1 hTu8k HI1.out HI.out.1 HI.out.2.1 HI.out.2.2 rfl (by decide) _ (8 + p) _ rfl (own_below hRb.out (alloc_below _ _)) ⟨wr.heap.size, 0, none⟩ 1 1 [_] rfl rfl (World.news_of_block (Blk.new wr _ 5)) (by intro u hu; simp at hu; rw [hu]; rfl) (by decide) (by unfold maxLen; omega) (by omega) (by simp; omega) _ rfl ?_)
            intro g9 p9 w9 m1 m2 m3 m4
            have x9 : Below A w2 w9 := grown_below (base := A) (hWb.out.alloc (by have := HA.out; omega) _) (own_below hRb.out (alloc_below wr _)) m2 (by simp; omega)
            have y9 : w9.ownsRow A 5 1 (.slice (some ⟨g9, 0, none⟩) (8 + p + 1) p9) (8 + (p + 1)) ((hd ++ padK rest (p + 1)).map byv) := by
              rw [HPS.out, List.map_append, List.map_append]
              exact m1
            have X9 := Lib.hid x9; clear x9
            have Y9 := Lib.hid y9; clear y9 m1 m2 m3 hRb hWb
            go_wp2
            go_roundw
            case rel => exact ⟨p + 1, by omega, by go_num, Y9, X9⟩
            case measure => simp [jInt]; omega
        · obtain rfl : p = 48 := by omega
          have eh : hd ++ padK rest 48 = head n q rest := by
            rw [HHD.out, padK_48]
            unfold head
            simp only [List.append_assoc]
          have hsl := Sl.of_owns hRb.out
          rw [eh] at hsl
          obtain ⟨hdq, hhq⟩ : ∃ h, h = head n q rest := ⟨_, rfl⟩
          rw [← hhq] at hsl
          have h56 : hdq.length = 56 := by have := hsl.1; simpa using this
          have hsl2 : Sl wr 1 (.slice sb hdq.length cb) hdq.length (hdq.map byv) := by rw [h56]; exact hsl
          have hck := checked_any wr hdq sb cb hsl2 (by omega) ((hK.below hW.out (by have := HB.out; omega)).below hWb.out (by have := HA.out; have := HB.out; omega)) (by have h1 := hWb.out.size; have := HA.out; have := HB.out; omega)
          rw [h56] at hck
          have hse : stamp hdq = sect n t q := by rw [hhq, HREST.out]; rfl
          have HCK := Lib.hid hck; clear hck hsl hsl2 eh
          have HSE := Lib.hid hse; clear hse hhq
          go_wp2_with fail
          refine HCK.out.mono ?_
          rintro e w8 ⟨rfl, b8⟩
          have b28 : Below w2.heap.size w2 w8 := by rw [← HA.out]; exact hWb.out.trans (b8.mono (by have h1 := hWb.out.size; have := HA.out; omega))
          have r8 := own_below hR.out b28
          have W8 : Below B w w8 := hW.out.trans (b28.mono hsz)
          have R8 := Lib.hid r8; clear r8
          have HW8 := Lib.hid W8; clear W8
          have z8 : B ≤ w8.heap.size := Nat.le_trans hsz b28.size
          clear b28 b8 hRb hWb HCK
          rw [HSE.out]
          obtain ⟨i2, hi1, hi2, hi3, hi4⟩ := info_parts infoStr
          have HJ := Lib.hid (show i2.zero = some (str []) ∧ i2.size = 1 ∧ i2.bytes = 16 from ⟨hi2, hi3, hi4⟩)
          have HJ1 := Lib.hid hi1; clear hi1 hi2 hi3 hi4
          go_wp2_with (refine wpList_append_lies _ rfl _ _ 22 rfl B 9 i2 (str []) 1 16 hTss HJ1.out HJ.out.1 HJ.out.2.1 HJ.out.2.2 rfl (by decide) _ q _ rfl (own_below R8.out (alloc_below _ _)) ⟨w8.heap.size, 0, none⟩ 1 1 [_] rfl rfl (World.news_of_block (Blk.new w8 _ 9)) (by intro u hu; simp at hu; rw [hu]; rfl) (by decide) (by unfold maxLen; omega) (by omega) (by simp; omega) _ rfl ?_)
          intro g9 p9 w9 m1 m2 m3 m4
          have x9 : Below B w w9 := grown_below (base := B) (HW8.out.alloc (by have := HB.out; omega) _) (own_below R8.out (alloc_below w8 _)) m2 (by simp; omega)
          have y9 : w9.ownsRow B 9 1 (.slice (some ⟨g9, 0, none⟩) (q + 1) p9) (q + 1) (((List.range (q + 1)).map (sect n t)).map str) := by
            rw [List.range_succ, List.map_append, List.map_append, List.map_map]
            exact m1
          have X9 := Lib.hid x9; clear x9
          have Y9 := Lib.hid y9; clear y9 m1 m2 m3 R8 HW8
          go_wp2
          go_roundw
          case rel => exact ⟨q + 1, by omega, by go_num, Y9, X9⟩
          case measure => simp [jInt]; omega
    · obtain rfl : q = c := by omega
      go_wp2_with (refine (HCN.out _).mono ?_; rintro e w2 ⟨rfl, hw2⟩; subst hw2)
      go_ret2
      refine ⟨_, rfl, ?_, hW.out⟩
      have := hR.out
      rw [HC.out] at this
      rw [HC.out]
      exact this
end Go.Proofs.YtbmnbdkbgpajeaaGreatDoor
end
/- journal: the reference: Pack at any arguments. -/
section
namespace Go.Proofs.YtbmnbdkbgpajeaaGreatDoor
open Go.RowKit Go.Own Go.Jn Go.Disk Go.BigFrame Go.Sha
attribute [local irreducible] SqW
attribute [local go_sem] setCell_twice str_size op_str_eql op_str_neq
set_option maxRecDepth 100000 in
theorem rpack_any (w : World) (n : Int) (t : List UInt8) (ht : t.length ≤ maxLen) (hK : Cells w 0 0 (Kt.map U)) (h0 : 0 < w.heap.size) :
    Calls Tryz.prog 60 #[.int .i64 n, str t] w fun e w' => ∃ v, e = .returned (.tuple #[v, .int .i64 (packE n t).2]) ∧ w'.ownsRow w.heap.size 9 1 v (packE n t).1.length ((packE n t).1.map str) ∧ Below w.heap.size w w' := by
  by_cases h1 : n < 1
  · have e : packE n t = ([], 1) := by unfold packE; rw [if_pos (.inl h1)]
    rw [e]
    go_enter Tryz.func60, Tryz.ntmps60
    go_wp2
    go_ret2
    exact ⟨_, rfl, World.ownsRow_nil _ _ _ _, Below.refl _ _⟩
  · by_cases h2 : 4096 < n
    · have e : packE n t = ([], 1) := by unfold packE; rw [if_pos (.inr h2)]
      rw [e]
      go_enter Tryz.func60, Tryz.ntmps60
      go_wp2
      go_ret2
      exact ⟨_, rfl, World.ownsRow_nil _ _ _ _, Below.refl _ _⟩
    · by_cases h3 : 8000 < t.length
      · have e : packE n t = ([], 4) := by unfold packE; rw [if_neg (by omega), if_pos h3]
        have h3i : (8000 : Int) < t.length := by omega
        rw [e]
        go_enter Tryz.func60, Tryz.ntmps60
        go_wp2
        go_ret2
        exact ⟨_, rfl, World.ownsRow_nil _ _ _ _, Below.refl _ _⟩
      · obtain ⟨m, rfl⟩ : ∃ m : Nat, n = m := ⟨n.toNat, by omega⟩
        rw [packE_ok (by omega) (by omega) (by omega)]
        refine (rpack_ok w m t ⟨by omega, by omega⟩ (by omega) hK h0).mono ?_
        rintro e w' ⟨v, rfl, h4, h5⟩
        refine ⟨v, rfl, ?_, h5⟩
        dsimp only
        rw [pack_len]
        exact h4
end Go.Proofs.YtbmnbdkbgpajeaaGreatDoor
end
/- journal: where a slice of one's own lies; what an append changes. -/
section
namespace Go.Proofs.YtbmnbdkbgpajeaaGreatDoor
open Go.RowKit Go.Own Go.Jn Go.Disk Go.BigFrame Go.Sha
theorem sl_own_lt {W : World} {v : Value} {n : Nat} {vs : List Value} (h : Sl W 1 v n vs) {b : Nat} (hb : v.ownBlock = some b) : b < W.heap.size := by
  obtain ⟨_, ⟨h2, _⟩ | ⟨b', off, cap, h2, _, _, _, h3⟩⟩ := h
  · rw [h2] at hb; cases hb
  · rw [h2] at hb
    have : b' = b := by simpa [Value.ownBlock] using hb
    omega
theorem Chg.of_grown {W W' : World} {o : Option Nat} (hg : W.grownBy W' o) : Chg o.toList W W' := ⟨hg.os, hg.tape, hg.output, hg.size, fun k hk hn => hg.block k hk (fun e => hn (by simp [← e]))⟩
end Go.Proofs.YtbmnbdkbgpajeaaGreatDoor
end
