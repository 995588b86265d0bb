/- journal: the reference: Pack (under way). -/
import Derived.Test.YtbmnbdkbgpajeaaGreatDoorFR28
import Derived.Test.YtbmnbdkbgpajeaaGreatDoorFR21
import Derived.Test.YtbmnbdkbgpajeaaGreatDoorFR04
import Derived.Laws.AppendOwnNone
import Derived.Deep.AppendLies
/- journal: the reference: Pack (under way). -/
section
namespace Go.Proofs.YtbmnbdkbgpajeaaGreatDoor
open Go.RowKit Go.Own Go.Jn Go.Disk Go.BigFrame Go.Sha
attribute [local irreducible] SqW
attribute [local go_sem] setCell_twice str_size op_str_eql op_str_neq
theorem own_news {w : World} {base n : Nat} {e : TypeId} {v : Value} {xs : List Value} (h : w.ownsRow base e 1 v n xs) (hn : 0 < n) : ∃ g c, v = .slice (some ⟨g, 0, none⟩) n c ∧ base ≤ g ∧ g < w.heap.size ∧ ∀ j u, xs[j]? = some u → w.cell? ((⟨g, 0, none⟩ : Addr).add j) = some u := by
  have hs := Sl.of_owns h
  obtain ⟨hl, h2 | ⟨g, cap, cur, rfl, hg, hgg, rest⟩⟩ := h
  · obtain ⟨_, h0⟩ := h2
    omega
  · obtain ⟨_, ⟨h2, h3⟩ | ⟨b, off, cap', h2, h3, h4, h5, h6⟩⟩ := hs
    · omega
    · injection h2 with h2 _ _
      injection h2 with h2
      injection h2 with e1 e2 _
      subst e1
      subst e2
      refine ⟨_, _, rfl, hg, h6, fun j u hj => ?_⟩
      have hadd : ∀ g : Nat, (⟨g, 0, none⟩ : Addr).add j = ⟨g, j, none⟩ := fun g => by unfold Addr.add; split <;> simp_all
      rw [hadd]
      have := h5 j u hj
      rwa [Nat.zero_add] at this
def padK (rest : List UInt8) (p : Nat) : List UInt8 := (List.range p).map fun i => rest.getD i 0
theorem padK_in {rest : List UInt8} {p : Nat} (h : p < rest.length) : padK rest (p + 1) = padK rest p ++ [rest[p]] := by
  unfold padK
  rw [List.range_succ, List.map_append, List.map_cons, List.map_nil, List.getD_eq_getElem?_getD, List.getElem?_eq_getElem h]
  rfl
theorem padK_out {rest : List UInt8} {p : Nat} (h : ¬ p < rest.length) : padK rest (p + 1) = padK rest p ++ [0] := by
  unfold padK
  rw [List.range_succ, List.map_append, List.map_cons, List.map_nil, List.getD_eq_getElem?_getD, List.getElem?_eq_none (by omega)]
  rfl
theorem padK_48 (rest : List UInt8) : padK rest 48 = rest.take 48 ++ List.replicate (48 - rest.length) 0 := by
  unfold padK
  apply List.ext_getElem?
  intro i
  by_cases hi : i < 48
  · rw [List.getElem?_map, List.getElem?_range hi, Option.map_some]
    by_cases hr : i < rest.length
    · rw [List.getElem?_append_left (by rw [List.length_take]; omega), List.getElem?_take_of_lt hi, List.getD_eq_getElem?_getD, List.getElem?_eq_getElem hr]
      rfl
    · rw [List.getElem?_append_right (by rw [List.length_take]; omega), List.length_take, List.getElem?_replicate, if_pos (by omega), List.getD_eq_getElem?_getD, List.getElem?_eq_none (by omega)]
      rfl
  · rw [List.getElem?_eq_none (by simp; omega), List.getElem?_eq_none (by simp; omega)]
theorem cut48 {t : List UInt8} {q : Nat} (h : q < cntN t.length) (h8 : t.length ≤ 8000) : 48 * q ≤ t.length := by
  unfold cntN at h
  rw [if_neg (by omega)] at h
  split at h <;> omega
theorem slice_strL (W : World) (bs : List UInt8) (lo : Nat) (h2 : lo ≤ bs.length) : (Instr.slice 9 (str bs) (some (.int .i64 (lo : Int))) none none).run Tryz.prog W = .ok (str (bs.drop lo)) W := by
  rw [run_slice_string_l (ht := hTs) (h0 := by omega) (h1 := by rw [str_size]; omega)]
  congr 2
  apply ByteArray.ext
  simp
  exact List.take_of_length_le (by rw [List.length_drop]; exact Nat.le_of_eq (by simp [ByteArray.size]))
set_option maxRecDepth 100000 in
set_option maxHeartbeats 1600000 in
theorem rpack_ok (w : World) (n : Nat) (t : List UInt8) (hn : 1 ≤ n ∧ n ≤ 4096) (ht : t.length ≤ 8000) (hK : Cells w 0 0 (Kt.map U)) (h0 : 0 < w.heap.size) :
    Calls Tryz.prog 60 #[.int .i64 n, str t] w fun e w' => ∃ v, e = .returned (.tuple #[v, .int .i64 0]) ∧ w'.ownsRow w.heap.size 9 1 v (cntN t.length) ((pack n t).map str) ∧ Below w.heap.size w w' := by
  have hni : ¬ (n : Int) < 1 := by omega
  have hnj : ¬ (4096 : Int) < (n : Int) := by omega
  have hti : ¬ (8000 : Int) < (t.length : Int) := by omega
  have HCN : Hid (∀ W, Calls Tryz.prog 56 #[.int .i64 (t.length : Int)] W fun e w' => e = .returned (.int .i64 (cntN t.length : Int)) ∧ w' = W) := Lib.hid fun W => by
    have := rcount_any (t.length : Int) W
    have e : cntI (t.length : Int) = (cntN t.length : Int) := by unfold cntI; rw [if_neg (by omega)]; simp
    rw [e] at this
    exact this
  have hc2 := cntN_le (n := t.length) ht
  have hcut : ∀ q, q < cntN t.length → 48 * q ≤ t.length := fun q h => cut48 h ht
  have HCUT := Lib.hid hcut; clear hcut
  obtain ⟨c, hc⟩ : ∃ c, c = cntN t.length := ⟨_, rfl⟩
  rw [← hc] at HCN HCUT hc2 ⊢
  have HC := Lib.hid hc; clear hc
  obtain ⟨B, hB⟩ : ∃ B, B = w.heap.size := ⟨_, rfl⟩
  rw [← hB]
  have HB := Lib.hid hB; clear hB
  go_enter Tryz.func60, Tryz.ntmps60
  go_wp2_with fail
  go_loopw [6, 7] (fun v x wr => ∃ q : Nat, q ≤ c ∧ x = .int .i64 q ∧ Hid (wr.ownsRow B 9 1 v q (((List.range q).map (sect n t)).map str)) ∧ Hid (Below B w wr)) (fun _ x _ => c - (jInt x).toNat)
  case atStart => exact ⟨0, Nat.zero_le _, rfl, Lib.hid (World.ownsRow_nil _ _ _ _), Lib.hid (Below.refl _ _)⟩
  case round =>
    obtain ⟨q, hq, rfl, hR, hW⟩ := hrel
    obtain ⟨so, co, rfl, _⟩ := own_slice hR.out
    have hsz : B ≤ wr.heap.size := by have := hW.out.size; have := HB.out; omega
    by_cases hlt : q < c
    · have hlc : (q : Int) < c := by omega
      have h48 := HCUT.out q hlt
      obtain ⟨rest, hrest⟩ : ∃ r, r = t.drop (48 * q) := ⟨_, rfl⟩
      have hsl : ∀ W, (Instr.slice 9 (str t) (some (.int .i64 (48 * (q : Int)))) none none).run Tryz.prog W = .ok (str rest) W := fun W => by
        have := slice_strL W t (48 * q) h48
        rw [← hrest] at this
        rw [show (48 * (q : Int)) = ((48 * q : Nat) : Int) by omega]
        exact this
      have hrl : rest.length ≤ 8000 := by rw [hrest, List.length_drop]; omega
      have HREST := Lib.hid hrest; clear hrest
      go_wp2_with (refine (HCN.out _).mono ?_; rintro e w2 ⟨rfl, hw2⟩; subst hw2)
      have hbw : Below w2.heap.size w2 w2 := Below.refl _ _
      refine (small_any w2 n 4 (by decide) (by omega)).mono ?_
      rintro e w3 ⟨v3, rfl, o3, b3⟩
      obtain ⟨s3, c3, rfl, _⟩ := own_slice o3
      have O3 := Lib.hid o3; clear o3
      have B3 := Lib.hid b3; clear b3 hbw
      go_wp2_with fail
      refine (small_any w3 q 2 (by decide) (by omega)).mono ?_
      rintro e w4 ⟨v4, rfl, o4, b4⟩
      obtain ⟨A, hA⟩ : ∃ A, A = w2.heap.size := ⟨_, rfl⟩
      obtain ⟨i, hi1, hi2, hi3, hi4⟩ := info_parts infoU8k
      have HI := Lib.hid (show i.zero = some (.int .u8 0) ∧ i.size = 1 ∧ i.bytes = 1 from ⟨hi2, hi3, hi4⟩)
      have HI1 := Lib.hid hi1; clear hi1 hi2 hi3 hi4
      have r4 := own_below O3.out b4
      have z4 : A ≤ w4.heap.size := by have h1 := B3.out.size; have h2 := b4.size; omega
      have x4 : Below A w2 w4 := by rw [hA]; exact B3.out.trans (b4.mono B3.out.size)
      rw [← hA] at r4
      obtain ⟨g4, c4, rfl, _, _, nw4⟩ := own_news o4 (by decide)
      have R4 := Lib.hid r4; clear r4 O3 B3
      have X4 := Lib.hid x4; clear x4 b4
      have N4 := Lib.hid nw4; clear nw4 o4
      have HA := Lib.hid hA; clear hA
      go_wp2_with (refine wpList_append_lies _ rfl _ _ 81 rfl A 5 i (.int .u8 0) 1 1 hTu8k HI1.out HI.out.1 HI.out.2.1 HI.out.2.2 rfl (by decide) _ 4 _ rfl R4.out ⟨g4, 0, none⟩ 2 c4 ((le 2 q).map byv) rfl (by simp [le_length]) N4.out (bytes_oneCell _) (by decide) (by unfold maxLen; omega) (by omega) z4 _ rfl ?_)
      intro g5 p5 w5 m1 m2 m3 m4
      have x5 : Below A w2 w5 := grown_below (base := A) X4.out R4.out m2 z4
      have M5 := Lib.hid m1; clear m1 m2 m3 R4 N4
      have X5 := Lib.hid x5; clear x5 X4
      go_wp2_with fail
      refine (small_any w5 rest.length 2 (by decide) (by omega)).mono ?_
      rintro e w6 ⟨v6, rfl, o6, b6⟩
      have r6 := own_below M5.out b6
      have z6 : A ≤ w6.heap.size := by have h1 := X5.out.size; have h2 := b6.size; have := HA.out; omega
      have x6 : Below A w2 w6 := X5.out.trans (b6.mono (by have h1 := X5.out.size; have := HA.out; omega))
      obtain ⟨g6, c6, rfl, _, _, nw6⟩ := own_news o6 (by decide)
      have R6 := Lib.hid r6; clear r6 M5
      have X6 := Lib.hid x6; clear x6 b6 X5
      have N6 := Lib.hid nw6; clear nw6 o6
      go_wp2_with (refine wpList_append_lies _ rfl _ _ 81 rfl A 5 i (.int .u8 0) 1 1 hTu8k HI1.out HI.out.1 HI.out.2.1 HI.out.2.2 rfl (by decide) _ (4 + 2) _ rfl R6.out ⟨g6, 0, none⟩ 2 c6 ((le 2 rest.length).map byv) rfl (by simp [le_length]) N6.out (bytes_oneCell _) (by decide) (by unfold maxLen; omega) (by omega) z6 _ rfl ?_)
      intro g7 p7 w7 m1 m2 m3 m4
      have x7 : Below A w2 w7 := grown_below (base := A) X6.out R6.out m2 z6
      have M7 := Lib.hid m1; clear m1 m2 m3 R6 N6
      have X7 := Lib.hid x7; clear x7 X6
      go_wp2_with fail
      obtain ⟨hd, hhd⟩ : ∃ hd, hd = le 4 n ++ (le 2 q ++ le 2 rest.length) := ⟨_, rfl⟩
      have y7 : w7.ownsRow A 5 1 (.slice (some ⟨g7, 0, none⟩) (4 + 2 + 2) p7) (8 + 0) ((hd ++ padK rest 0).map byv) := by
        have := M7.out
        rw [← List.map_append, ← List.map_append] at this
        first | rw [List.append_assoc] at this | skip
        rw [hhd, show padK rest 0 = [] from rfl, List.append_nil]
        exact this
      have Y7 := Lib.hid y7; clear y7 M7
      have HHD := Lib.hid hhd; clear hhd
      go_loopw [9, 10] (fun v x wi => ∃ p : Nat, p ≤ 48 ∧ x = .int .i64 p ∧ Hid (wi.ownsRow A 5 1 v (8 + p) ((hd ++ padK rest p).map byv)) ∧ Hid (Below A w2 wi)) (fun _ x _ => 48 - (jInt x).toNat)
      case atStart => exact ⟨0, by omega, rfl, Y7, X7⟩
      case round =>
        clear Y7 X7
        obtain ⟨p, hp, rfl, hRb, hWb⟩ := hrel
        obtain ⟨sb, cb, rfl, _⟩ := own_slice hRb.out
        have zi : A ≤ wr.heap.size := by have h1 := hWb.out.size; have := HA.out; omega
        by_cases hpl : p < 48
        · have hpi : (p : Int) < 48 := by omega
          by_cases hpr : p < rest.length
          · have hpj : (p : Int) < rest.length := by omega
            obtain ⟨u, hu⟩ : ∃ u, u = rest[p] := ⟨_, rfl⟩
            have hix := fun W => str_index W rest p u hpr (by rw [hu, List.getD_eq_getElem?_getD, List.getElem?_eq_getElem hpr]; rfl)
            have hps := padK_in (p := p) hpr
            rw [← hu] at hps
            have HPS := Lib.hid hps; clear hps hu
            go_wp2_with (refine wpList_append_lies _ rfl _ _ 81 rfl A 5 i (.int .u8 0) 1 1 hTu8k HI1.out HI.out.1 HI.out.2.1 HI.out.2.2 rfl (by decide) _ (8 + p) _ rfl (own_below hRb.out (alloc_below _ _)) ⟨wr.heap.size, 0, none⟩ 1 1 [_] rfl rfl (World.news_of_block (Blk.new wr _ 5)) (by intro u hu; simp at hu; rw [hu]; rfl) (by decide) (by unfold maxLen; omega) (by omega) (by simp; omega) _ rfl ?_)
            intro g9 p9 w9 m1 m2 m3 m4
            have x9 : Below A w2 w9 := grown_below (base := A) (hWb.out.alloc (by have := HA.out; omega) _) (own_below hRb.out (alloc_below wr _)) m2 (by simp; omega)
            have y9 : w9.ownsRow A 5 1 (.slice (some ⟨g9, 0, none⟩) (8 + p + 1) p9) (8 + (p + 1)) ((hd ++ padK rest (p + 1)).map byv) := by
              rw [HPS.out, List.map_append, List.map_append]
              exact m1
            have X9 := Lib.hid x9; clear x9
            have Y9 := Lib.hid y9; clear y9 m1 m2 m3 hRb hWb
            go_wp2
            go_roundw
            case rel => exact ⟨p + 1, by omega, by go_num, Y9, X9⟩
            case measure => simp [jInt]; omega
          · have hpj : ¬ (p : Int) < rest.length := by omega
            have hps := padK_out (p := p) hpr
            have HPS := Lib.hid hps; clear hps
            go_wp2_with (refine wpList_append_lies _ rfl _ _ 81 rfl A 5 i (.int .u8 0) 1 1 hTu8k HI1.out HI.out.1 HI.out.2.1 HI.out.2.2 rfl (by decide) _ (8 + p) _ rfl (own_below hRb.out (alloc_below _ _)) ⟨wr.heap.size, 0, none⟩ 1 1 [_] rfl rfl (World.news_of_block (Blk.new wr _ 5)) (by intro u hu; simp at hu; rw [hu]; rfl) (by decide) (by unfold maxLen; omega) (by omega) (by simp; omega) _ rfl ?_)
            intro g9 p9 w9 m1 m2 m3 m4
            have x9 : Below A w2 w9 := grown_below (base := A) (hWb.out.alloc (by have := HA.out; omega) _) (own_below hRb.out (alloc_below wr _)) m2 (by simp; omega)
            have y9 : w9.ownsRow A 5 1 (.slice (some ⟨g9, 0, none⟩) (8 + p + 1) p9) (8 + (p + 1)) ((hd ++ padK rest (p + 1)).map byv) := by
              rw [HPS.out, List.map_append, List.map_append]
              exact m1
            have X9 := Lib.hid x9; clear x9
            have Y9 := Lib.hid y9; clear y9 m1 m2 m3 hRb hWb
            go_wp2
            go_roundw
            case rel => exact ⟨p + 1, by omega, by go_num, Y9, X9⟩
            case measure => simp [jInt]; omega
        · obtain rfl : p = 48 := by omega
          have eh : hd ++ padK rest 48 = head n q rest := by
            rw [HHD.out, padK_48]
            unfold head
            simp only [List.append_assoc]
          have hsl := Sl.of_owns hRb.out
          rw [eh] at hsl
          obtain ⟨hdq, hhq⟩ : ∃ h, h = head n q rest := ⟨_, rfl⟩
          rw [← hhq] at hsl
          have h56 : hdq.length = 56 := by have := hsl.1; simpa using this
          have hsl2 : Sl wr 1 (.slice sb hdq.length cb) hdq.length (hdq.map byv) := by rw [h56]; exact hsl
          have hck := checked_any wr hdq sb cb hsl2 (by omega) ((hK.below hW.out (by have := HB.out; omega)).below hWb.out (by have := HA.out; have := HB.out; omega)) (by have h1 := hWb.out.size; have := HA.out; have := HB.out; omega)
          rw [h56] at hck
          have hse : stamp hdq = sect n t q := by rw [hhq, HREST.out]; rfl
          have HCK := Lib.hid hck; clear hck hsl hsl2 eh
          have HSE := Lib.hid hse; clear hse hhq
          go_wp2_with fail
          refine HCK.out.mono ?_
          rintro e w8 ⟨rfl, b8⟩
          have b28 : Below w2.heap.size w2 w8 := by rw [← HA.out]; exact hWb.out.trans (b8.mono (by have h1 := hWb.out.size; have := HA.out; omega))
          have r8 := own_below hR.out b28
          have W8 : Below B w w8 := hW.out.trans (b28.mono hsz)
          have R8 := Lib.hid r8; clear r8
          have HW8 := Lib.hid W8; clear W8
          have z8 : B ≤ w8.heap.size := Nat.le_trans hsz b28.size
          clear b28 b8 hRb hWb HCK
          rw [HSE.out]
          obtain ⟨i2, hi1, hi2, hi3, hi4⟩ := info_parts infoStr
          have HJ := Lib.hid (show i2.zero = some (str []) ∧ i2.size = 1 ∧ i2.bytes = 16 from ⟨hi2, hi3, hi4⟩)
          have HJ1 := Lib.hid hi1; clear hi1 hi2 hi3 hi4
          go_wp2_with (refine wpList_append_lies _ rfl _ _ 22 rfl B 9 i2 (str []) 1 16 hTss HJ1.out HJ.out.1 HJ.out.2.1 HJ.out.2.2 rfl (by decide) _ q _ rfl (own_below R8.out (alloc_below _ _)) ⟨w8.heap.size, 0, none⟩ 1 1 [_] rfl rfl (World.news_of_block (Blk.new w8 _ 9)) (by intro u hu; simp at hu; rw [hu]; rfl) (by decide) (by unfold maxLen; omega) (by omega) (by simp; omega) _ rfl ?_)
          intro g9 p9 w9 m1 m2 m3 m4
          have x9 : Below B w w9 := grown_below (base := B) (HW8.out.alloc (by have := HB.out; omega) _) (own_below R8.out (alloc_below w8 _)) m2 (by simp; omega)
          have y9 : w9.ownsRow B 9 1 (.slice (some ⟨g9, 0, none⟩) (q + 1) p9) (q + 1) (((List.range (q + 1)).map (sect n t)).map str) := by
            rw [List.range_succ, List.map_append, List.map_append, List.map_map]
            exact m1
          have X9 := Lib.hid x9; clear x9
          have Y9 := Lib.hid y9; clear y9 m1 m2 m3 R8 HW8
          go_wp2
          go_roundw
          case rel => exact ⟨q + 1, by omega, by go_num, Y9, X9⟩
          case measure => simp [jInt]; omega
    · obtain rfl : q = c := by omega
      go_wp2_with (refine (HCN.out _).mono ?_; rintro e w2 ⟨rfl, hw2⟩; subst hw2)
      go_ret2
      refine ⟨_, rfl, ?_, hW.out⟩
      have := hR.out
      rw [HC.out] at this
      rw [HC.out]
      exact this
end Go.Proofs.YtbmnbdkbgpajeaaGreatDoor
end
/- journal: the reference: Pack at any arguments. -/
section
namespace Go.Proofs.YtbmnbdkbgpajeaaGreatDoor
open Go.RowKit Go.Own Go.Jn Go.Disk Go.BigFrame Go.Sha
attribute [local irreducible] SqW
attribute [local go_sem] setCell_twice str_size op_str_eql op_str_neq
set_option maxRecDepth 100000 in
theorem rpack_any (w : World) (n : Int) (t : List UInt8) (_ht : t.length ≤ maxLen) (hK : Cells w 0 0 (Kt.map U)) (h0 : 0 < w.heap.size) :
    Calls Tryz.prog 60 #[.int .i64 n, str t] w fun e w' => ∃ v, e = .returned (.tuple #[v, .int .i64 (packE n t).2]) ∧ w'.ownsRow w.heap.size 9 1 v (packE n t).1.length ((packE n t).1.map str) ∧ Below w.heap.size w w' := by
  by_cases h1 : n < 1
  · have e : packE n t = ([], 1) := by unfold packE; rw [if_pos (.inl h1)]
    rw [e]
    go_enter Tryz.func60, Tryz.ntmps60
    go_wp2
    go_ret2
    exact ⟨_, rfl, World.ownsRow_nil _ _ _ _, Below.refl _ _⟩
  · by_cases h2 : 4096 < n
    · have e : packE n t = ([], 1) := by unfold packE; rw [if_pos (.inr h2)]
      rw [e]
      go_enter Tryz.func60, Tryz.ntmps60
      go_wp2
      go_ret2
      exact ⟨_, rfl, World.ownsRow_nil _ _ _ _, Below.refl _ _⟩
    · by_cases h3 : 8000 < t.length
      · have e : packE n t = ([], 4) := by unfold packE; rw [if_neg (by omega), if_pos h3]
        have h3i : (8000 : Int) < t.length := by omega
        rw [e]
        go_enter Tryz.func60, Tryz.ntmps60
        go_wp2
        go_ret2
        exact ⟨_, rfl, World.ownsRow_nil _ _ _ _, Below.refl _ _⟩
      · obtain ⟨m, rfl⟩ : ∃ m : Nat, n = m := ⟨n.toNat, by omega⟩
        rw [packE_ok (by omega) (by omega) (by omega)]
        refine (rpack_ok w m t ⟨by omega, by omega⟩ (by omega) hK h0).mono ?_
        rintro e w' ⟨v, rfl, h4, h5⟩
        refine ⟨v, rfl, ?_, h5⟩
        dsimp only
        rw [pack_len]
        exact h4
end Go.Proofs.YtbmnbdkbgpajeaaGreatDoor
end
/- journal: genuine. -/
section
namespace Go.Jn
open Go.Disk Go.Sha Go.Own
/-- what genuine asks of one sector -/
def genS (ts : List (List UInt8)) (s : List UInt8) : Bool := !goodB s || (decide (numOf s ≤ ts.length) && (decide ((ts.getD (numOf s - 1) []).length ≤ 8000) && decide ((pack (numOf s) (ts.getD (numOf s - 1) []))[prtOf s]? = some s)))
theorem genB_all (img ts : List (List UInt8)) : genB img ts = img.all (genS ts) := rfl
theorem genB_snoc {img ts : List (List UInt8)} {k : Nat} (h : k < img.length) : genB (img.take (k + 1)) ts = (genB (img.take k) ts && genS ts img[k]) := by
  rw [genB_all, genB_all, List.take_succ_eq_append_getElem h, List.all_append]
  simp
theorem genB_bad {img ts : List (List UInt8)} {k : Nat} (h : k < img.length) (hb : genS ts img[k] = false) : genB img ts = false := by
  rw [genB_all, Bool.eq_false_iff]
  intro ha
  rw [List.all_eq_true] at ha
  have := ha _ (List.getElem_mem h)
  rw [hb] at this
  cases this
theorem unpack_good {s : List UInt8} (h : goodB s = true) : unpack s = ⟨numOf s, prtOf s, leftOf s, (s.drop 8).take (min (leftOf s) 48), true⟩ := by unfold unpack; rw [if_pos h]
theorem unpack_bad {s : List UInt8} (h : goodB s = false) : unpack s = prt0 := by unfold unpack; rw [h]; rfl
end Go.Jn
namespace Go.Proofs.YtbmnbdkbgpajeaaGreatDoor
open Go.RowKit Go.Own Go.Jn Go.Disk Go.BigFrame Go.Sha
attribute [local irreducible] SqW
attribute [local go_sem] setCell_twice str_size op_str_eql op_str_neq
theorem rprt_one (p : Prt) : ∀ v ∈ [.int .i64 (p.n : Int), .int .i64 (p.k : Int), .int .i64 (p.l : Int), str p.b, .bool p.ok], Value.oneCell' v = true := by
  intro v hv
  simp at hv
  rcases hv with rfl | rfl | rfl | rfl | rfl <;> rfl
set_option maxRecDepth 100000 in
set_option maxHeartbeats 4000000 in
theorem genuine_any (w : World) (img ts : List (List UInt8)) (sa sb : Option Addr) (ca cb : Nat) (hi : Sl w 1 (.slice sa img.length ca) img.length (img.map str)) (ht : Sl w 1 (.slice sb ts.length cb) ts.length (ts.map str))
    (hm : img.length ≤ 1000000) (htm : ts.length ≤ 1000000) (h64 : ∀ s ∈ img, s.length ≤ 64) (htl : ∀ t ∈ ts, t.length ≤ 1000000)
    (hK : Cells w 0 0 (Kt.map U)) (h0 : 0 < w.heap.size) :
    Calls Tryz.prog 18 #[.slice sa img.length ca, .slice sb ts.length cb] w fun e w' => e = .returned (.bool (genB img ts)) ∧ Below w.heap.size w w' := by
  have HK := Lib.hid hK; clear hK
  have HL0 := Lib.hid h0; clear h0
  have HI := Lib.hid hi; clear hi
  have HT := Lib.hid ht; clear ht
  have H64 := Lib.hid h64; clear h64
  have HTL := Lib.hid htl; clear htl
  go_enter Tryz.func18, Tryz.ntmps18
  go_wp2
  go_loopw [12] (fun c wr => ∃ k : Nat, k ≤ img.length ∧ c = .int .i64 k ∧ Hid (genB (img.take k) ts = true) ∧ Hid (Below w.heap.size w wr)) (fun c _ => img.length - (jInt c).toNat)
  case atStart => exact ⟨0, Nat.zero_le _, rfl, Lib.hid rfl, Lib.hid (Below.refl _ _)⟩
  case round =>
    obtain ⟨k, hk, rfl, HG, HB⟩ := hrel
    by_cases hkl : k < img.length
    · have hki : ((k : Int) < img.length) = True := eq_true (by omega)
      obtain ⟨b, off, rfl, _, _, hC, hlt⟩ := sl_cases HI.out (by omega)
      obtain ⟨s, hs⟩ : ∃ s, s = img[k] := ⟨_, rfl⟩
      have cx : wr.cell? ⟨b, off + k, none⟩ = some (str s) := (hC.below HB.out hlt) k _ (by simp [hkl, hs])
      have hs64 : s.length ≤ 64 := by rw [hs]; exact H64.out _ (List.getElem_mem hkl)
      have hsn := genB_snoc (ts := ts) hkl
      rw [← hs, HG.out, Bool.true_and] at hsn
      have hbd := genB_bad (ts := ts) hkl
      rw [← hs] at hbd
      have HSN := Lib.hid hsn; clear hsn
      have HBD := Lib.hid hbd; clear hbd
      have HS := Lib.hid hs; clear hs hC
      go_wp2_with fail
      refine (runpack_any wr s (by omega) (HK.out.below HB.out HL0.out) (Nat.lt_of_lt_of_le HL0.out HB.out.size)).mono ?_
      obtain ⟨p, hp⟩ : ∃ p, p = Jn.unpack s := ⟨_, rfl⟩
      rw [← hp]
      unfold prtV prtC
      rintro e w2 ⟨rfl, b2⟩
      have HP := Lib.hid hp; clear hp
      go_wp2_with (refine wpList_store_blk (ty := 102) (n := 5) (vs := [.int .i64 (p.n : Int), .int .i64 (p.k : Int), .int .i64 (p.l : Int), str p.b, .bool p.ok]) (Blk.new _ _ 102) rfl rfl rfl rfl rfl infoRP rfl (by simp) (rprt_one p) ?_)
      intro w3 hb3 ho3
      have b3 : Below w.heap.size w w3 := (HB.out.trans (b2.mono HB.out.size)).trans ((ho3.below (alloc_below _ _) (Nat.le_refl _)).mono (Nat.le_trans HB.out.size b2.size))
      obtain ⟨T, hT⟩ : ∃ T, T = w2.heap.size := ⟨_, rfl⟩
      have hwT : w.heap.size ≤ T := by rw [hT]; exact Nat.le_trans HB.out.size b2.size
      have k3 : Blk w3 T [.int .i64 (p.n : Int), .int .i64 (p.k : Int), .int .i64 (p.l : Int), str p.b, .bool p.ok] 102 := by rw [hT]; simpa using hb3
      rw [← hT]
      have HK3 := Lib.hid k3; clear k3
      have HB3 := Lib.hid b3; clear b3 hb3 ho3 b2 hT cx
      cases hgb : goodB s with
      | false =>
        have hpz : p = prt0 := by rw [HP.out]; exact Jn.unpack_bad hgb
        have q4 : w3.cell? ⟨T, 4, none⟩ = some (.bool false) := by have := HK3.out.cell (i := 4) rfl; rw [hpz] at this; exact this
        have hgs : genB (img.take (k + 1)) ts = true := by rw [HSN.out]; unfold genS; rw [hgb]; rfl
        have HGS := Lib.hid hgs; clear hgs hpz
        go_wp2
        go_roundw
        case rel => exact ⟨k + 1, by omega, by go_num, HGS, HB3⟩
        case measure => simp [jInt]; omega
      | true =>
        have hpg := Jn.unpack_good hgb
        rw [← HP.out] at hpg
        have hp4 : p.ok = true := by rw [hpg]
        have hpn : p.n = numOf s := by rw [hpg]
        have hpk : p.k = prtOf s := by rw [hpg]
        have hn1 : 1 ≤ p.n := by rw [hpn]; exact (good_parts hgb).2.2.1
        have hn4 : p.n ≤ 4096 := by rw [hpn]; exact (good_parts hgb).2.2.2.1
        have hgs : genS ts s = (decide (p.n ≤ ts.length) && (decide ((ts.getD (p.n - 1) []).length ≤ 8000) && decide ((pack p.n (ts.getD (p.n - 1) []))[p.k]? = some s))) := by unfold genS; rw [hgb, hpn, hpk]; rfl
        have q4 : w3.cell? ⟨T, 4, none⟩ = some (.bool true) := by have := HK3.out.cell (i := 4) rfl; rw [hp4] at this; exact this
        obtain ⟨n, hn⟩ : ∃ n, n = p.n := ⟨_, rfl⟩
        obtain ⟨kk, hkk⟩ : ∃ kk, kk = p.k := ⟨_, rfl⟩
        rw [← hn] at hn1 hn4 hgs
        rw [← hkk] at hgs
        have q0 : w3.cell? ⟨T, 0, none⟩ = some (.int .i64 (n : Int)) := by have := HK3.out.cell (i := 0) rfl; rw [hn]; exact this
        have q1 : w3.cell? ⟨T, 1, none⟩ = some (.int .i64 (kk : Int)) := by have := HK3.out.cell (i := 1) rfl; rw [hkk]; exact this
        have HGS := Lib.hid hgs; clear hgs hpg hp4 hpn hpk hn hkk
        by_cases hnl : ts.length < n
        · have hni : ((ts.length : Int) < n) = True := eq_true (by omega)
          have hres : genB img ts = false := HBD.out (by rw [HGS.out, decide_eq_false (by omega), Bool.false_and])
          go_wp2
          go_ret
          rw [hres]
          exact ⟨rfl, HB3.out⟩
        · have hni : ((ts.length : Int) < n) = False := eq_false (by omega)
          obtain ⟨m, rfl⟩ : ∃ m, n = m + 1 := ⟨n - 1, by omega⟩
          have hml : m < ts.length := by omega
          obtain ⟨g, o2, rfl, _, _, hCt, hltt⟩ := sl_cases HT.out (by omega)
          obtain ⟨t, ht⟩ : ∃ t, t = ts[m] := ⟨_, rfl⟩
          have htg : ts.getD (m + 1 - 1) [] = t := by rw [Nat.add_sub_cancel, List.getD_eq_getElem?_getD, List.getElem?_eq_getElem hml, ht]; rfl
          have htl : t.length ≤ 1000000 := by rw [ht]; exact HTL.out _ (List.getElem_mem hml)
          have hgs := HGS.out
          rw [htg, decide_eq_true (show m + 1 ≤ ts.length by omega), Bool.true_and] at hgs
          have ct : w3.cell? ⟨g, o2 + m, none⟩ = some (str t) := (hCt.below HB3.out hltt) m _ (by simp [hml, ht])
          have hgl : g < w3.heap.size := Nat.lt_of_lt_of_le hltt HB3.out.size
          have HGS2 := Lib.hid hgs; clear hgs HGS htg ht hCt
          have hcn : (m : Int) + 1 - 1 = (m : Int) := by omega
          have hK3 := HK.out.below HB3.out HL0.out
          have hL3 := Nat.lt_of_lt_of_le HL0.out HB3.out.size
          have HPK : Hid (∀ W1 : World, ExtB w3.drew W1 → Calls Tryz.prog 60 #[.int .i64 ((m : Int) + 1), str t] W1 fun e w' => ∃ v, e = .returned (.tuple #[v, .int .i64 (packE ((m : Int) + 1) t).2]) ∧ w'.ownsRow w3.heap.size 9 1 v (packE ((m : Int) + 1) t).1.length ((packE ((m : Int) + 1) t).1.map str) ∧ Below W1.heap.size W1 w') := Lib.hid (fun W1 hx => (rpack_any W1 _ t (by unfold maxLen; omega) ((hK3.drew).below hx hL3) (Nat.lt_of_lt_of_le hL3 hx.size)).mono fun e w' ⟨v, h1, h2, h3⟩ => ⟨v, h1, own_weaken h2 hx.size, h3⟩)
          go_upto_region 8 with (fail)
          refine wp_region_sqB 14 [1, 4, 7, 8] (fun i v W => match i with
            | 1 => v = .int .i64 (((m : Int) + 1))
            | 4 => v = .int .i64 (((m : Int) + 1))
            | 7 => v = str t
            | 8 => ∃ u, v = .tuple #[u, .int .i64 (packE (((m : Int) + 1)) t).2] ∧ W.ownsRow w3.heap.size 9 1 u (packE (((m : Int) + 1)) t).1.length ((packE (((m : Int) + 1)) t).1.map str)
            | _ => True) (by kernel_rfl) (by kernel_rfl) ?stable ?main
          case stable =>
            intro i v W W' h hb
            match i, h with
            | 0, h => exact h
            | 1, h => exact h
            | 2, h => exact h
            | 3, h => exact h
            | 4, h => exact h
            | 5, h => exact h
            | 6, h => exact h
            | 7, h => exact h
            | 8, h => exact (by obtain ⟨u, h1, h2⟩ := h; exact ⟨u, h1, own_below h2 hb⟩)
            | _ + 9, _ => exact trivial
          simp only [List.take_succ_cons, List.take_zero, List.drop_succ_cons, List.drop_zero]
          repeat (refine sqw_quiet rfl rfl (ExtB.refl _) ?_; go_big_quiet_step (fail); refine wpQuiet_nil ?_)
          refine sqw_postY rfl rfl rfl ?_ ?_
          · intro W1 hx hf
            have cx : W1.cell? ⟨T, 0, none⟩ = some (.int .i64 (((m : Int) + 1))) := (hx.below.cell (p := ⟨T, 0, none⟩) (by first | exact HK3.out.drew.lt | exact hgl)).trans (by assumption)
            refine yields_value (v := .int .i64 (((m : Int) + 1))) (w' := W1) ?_ ⟨rfl, ExtB.refl _⟩
            go_simp
          intro v Wj hv
          obtain rfl : v = .int .i64 (((m : Int) + 1)) := hv
          simp only [Act.put, List.setIfInBounds_toArray, List.set_cons_zero, List.set_cons_succ]
          repeat (refine sqw_quiet rfl rfl (ExtB.refl _) ?_; go_big_quiet_step (fail); refine wpQuiet_nil ?_)
          refine sqw_postY rfl rfl rfl ?_ ?_
          · intro W1 hx hf
            have cx : W1.cell? ⟨T, 0, none⟩ = some (.int .i64 (((m : Int) + 1))) := (hx.below.cell (p := ⟨T, 0, none⟩) (by first | exact HK3.out.drew.lt | exact hgl)).trans (by assumption)
            refine yields_value (v := .int .i64 (((m : Int) + 1))) (w' := W1) ?_ ⟨rfl, ExtB.refl _⟩
            go_simp
          intro v Wj hv
          obtain rfl : v = .int .i64 (((m : Int) + 1)) := hv
          simp only [Act.put, List.setIfInBounds_toArray, List.set_cons_zero, List.set_cons_succ]
          repeat (refine sqw_quiet rfl rfl (ExtB.refl _) ?_; go_big_quiet_step (fail); refine wpQuiet_nil ?_)
          refine sqw_postY rfl rfl rfl ?_ ?_
          · intro W1 hx hf
            have cx : W1.cell? ⟨g, o2 + m, none⟩ = some (str t) := (hx.below.cell (p := ⟨g, o2 + m, none⟩) (by first | exact HK3.out.drew.lt | exact hgl)).trans (by assumption)
            refine yields_value (v := str t) (w' := W1) ?_ ⟨rfl, ExtB.refl _⟩
            go_simp
          intro v Wj hv
          obtain rfl : v = str t := hv
          simp only [Act.put, List.setIfInBounds_toArray, List.set_cons_zero, List.set_cons_succ]
          repeat (refine sqw_quiet rfl rfl (ExtB.refl _) ?_; go_big_quiet_step (fail); refine wpQuiet_nil ?_)
          refine sqw_postY rfl rfl rfl ?_ ?_
          · intro W1 hx hf
            refine yields_call rfl (by kernel_rfl) rfl rfl ((HPK.out W1 hx).mono ?_)
            rintro e w' ⟨u, rfl, h1, h2⟩
            exact ⟨_, rfl, ⟨u, rfl, h1⟩, h2⟩
          intro v Wj hv
          obtain ⟨u8, rfl, _⟩ := hv
          simp only [Act.put, List.setIfInBounds_toArray, List.set_cons_zero, List.set_cons_succ]
          repeat (refine sqw_quiet rfl rfl (ExtB.refl _) ?_; go_big_quiet_step (fail); refine wpQuiet_nil ?_)
          refine sqw_nil ?_
          intro w4 hx hf
          obtain ⟨u9, e9, o9⟩ := hf 8 35 (by decide) (by kernel_rfl) rfl (fun o h => by obtain rfl := Option.some.inj h; rfl)
          cases e9
          have hb4 : Below w3.heap.size w3 w4 := (Below.refl _ w3).drew.trans hx.below
          have HB4 := Lib.hid (HB3.out.trans (hb4.mono HB3.out.size))
          have k4 := HK3.out.below hb4 HK3.out.lt
          have r1 : w4.cell? ⟨T, 1, none⟩ = some (.int .i64 (kk : Int)) := (hb4.cell (p := ⟨T, 1, none⟩) HK3.out.lt).trans q1
          clear hf hx HPK hK3 hL3 k4
          by_cases h8 : 8000 < t.length
          · have e : packE (((m : Int) + 1)) t = ([], 4) := by unfold packE; rw [if_neg (by omega), if_pos h8]
            have hres : genB img ts = false := HBD.out (by rw [HGS2.out, decide_eq_false (by omega), Bool.false_and])
            rw [e] at o9 ⊢
            clear e
            have O9 := Lib.hid o9; clear o9
            go_wp2
            go_ret
            first | rw [hres] | skip
            exact ⟨rfl, HB4.out⟩
          · have e : packE (((m : Int) + 1)) t = (pack (m + 1) t, 0) := packE_ok (n := m + 1) (by omega) (by omega) (by omega)
            rw [e] at o9 ⊢
            dsimp only at o9 ⊢
            clear e
            obtain ⟨L, hL⟩ : ∃ L, L = pack (m + 1) t := ⟨_, rfl⟩
            have hgs := HGS2.out
            rw [decide_eq_true (show t.length ≤ 8000 by omega), Bool.true_and] at hgs
            rw [← hL] at o9 hgs
            have hLl : L.length ≤ 1000000 := by
              rw [hL, pack_length]
              have := cntN_le (n := t.length) (by omega)
              omega
            obtain ⟨su, cu, rfl, _⟩ := own_slice o9
            have hSl := Sl.of_owns o9
            have HLL := Lib.hid hL; clear hL
            have O9 := Lib.hid o9; clear o9
            by_cases hkL : kk < L.length
            · have hki2 : ((L.length : Int) ≤ kk) = False := eq_false (by omega)
              obtain ⟨g2, o3, rfl, _, _, hCu, hlu⟩ := sl_cases hSl (by omega)
              obtain ⟨y, hy⟩ : ∃ y, y = L[kk] := ⟨_, rfl⟩
              have cy : w4.cell? ⟨g2, o3 + kk, none⟩ = some (str y) := hCu kk _ (by simp [hkL, hy])
              rw [List.getElem?_eq_getElem hkL, ← hy] at hgs
              have HY := Lib.hid hy; clear hy hCu hSl
              by_cases hys : y = s
              · subst hys
                have hres : genB (img.take (k + 1)) ts = true := by rw [HSN.out, hgs]; simp
                have HRS := Lib.hid hres; clear hres hgs
                have hq : (y == y) = true := by simp
                go_wp2
                refine ⟨⟨k + 1, by omega, by go_num, HRS, HB4⟩, by simp [jInt]; omega⟩
              · have hres : genB img ts = false := HBD.out (by rw [hgs]; simpa using hys)
                have hq : (y == s) = false := by simpa using hys
                clear hgs hys
                go_wp2
                go_ret
                first | rw [hres] | skip
                exact ⟨rfl, HB4.out⟩
            · have hki2 : ((L.length : Int) ≤ kk) = True := eq_true (by omega)
              have hres : genB img ts = false := HBD.out (by rw [hgs, List.getElem?_eq_none (by omega)]; simp)
              clear hgs hSl
              go_wp2
              go_ret
              first | rw [hres] | skip
              exact ⟨rfl, HB4.out⟩
    · obtain rfl : k = img.length := by omega
      have hki : ((img.length : Int) < img.length) = False := eq_false (by omega)
      have hg := HG.out
      rw [List.take_length] at hg
      go_wp2
      go_ret
      rw [hg]
      exact ⟨rfl, HB.out⟩
end Go.Proofs.YtbmnbdkbgpajeaaGreatDoor
end
/- journal: two lists that are the same, compared by the reference. -/
section
namespace Go.Proofs.YtbmnbdkbgpajeaaGreatDoor
open Go.RowKit Go.Own Go.Jn Go.Disk Go.BigFrame Go.Sha
theorem sameN_any (l : List Nat) (u v : Value) (w : World) (hu : Sl w 1 u l.length (intsV l)) (hv : Sl w 1 v l.length (intsV l)) (hm : l.length ≤ 1000000) : Calls Tryz.prog 23 #[u, v] w fun e w' => e = .returned (.bool true) ∧ Below w.heap.size w w' := by
  obtain ⟨sa, ca, rfl, _⟩ := sl_slice hu
  obtain ⟨sb, cb, rfl, _⟩ := sl_slice hv
  have hl : (l.map fun n : Nat => (n : Int)).length = l.length := by simp
  have e : intsV l = (l.map fun n : Nat => (n : Int)).map (.int .i64) := by simp [intsV]
  rw [e] at hu hv
  rw [← hl] at hu hv ⊢
  refine (sameInts_any _ _ sa sb ca cb w hu hv (.inl (by rw [hl]; exact hm))).mono ?_
  rintro e w' ⟨rfl, hb⟩
  exact ⟨by rw [beq_self_eq_true], hb⟩
theorem sameT_any (l : List (List UInt8)) (u v : Value) (w : World) (hu : Sl w 1 u l.length (l.map str)) (hv : Sl w 1 v l.length (l.map str)) (hm : l.length ≤ 1000000) : Calls Tryz.prog 20 #[u, v] w fun e w' => e = .returned (.bool true) ∧ Below w.heap.size w w' := by
  obtain ⟨sa, ca, rfl, _⟩ := sl_slice hu
  obtain ⟨sb, cb, rfl, _⟩ := sl_slice hv
  refine (sameTexts_any l l sa sb ca cb w hu hv (.inl hm)).mono ?_
  rintro e w' ⟨rfl, hb⟩
  exact ⟨by rw [beq_self_eq_true], hb⟩
end Go.Proofs.YtbmnbdkbgpajeaaGreatDoor
end
/- Appends of a slice that may be empty. Any program. -/
section
namespace Go.Own
open Go.RowKit
/-- 'append(s, x...)' with no element: s, as it was. -/
theorem wpList_append_zero {P : Program} {w : World} {ops : Array Oper} {rest : List Oper} {o : Oper} {a : Act} {Q : Exit → Act → World → Prop} (hgd : o.guard = none) (s x : Operand) (t : TypeId)
    (ho : o.op = .call { callee := .builtin .append, args := #[s, x], argTypes := #[t, t] })
    (base : Nat) (e : TypeId) (i : TypeInfo) (size : Nat) (ht : P.underlying t = some (.slice e)) (hi : P.info? e = some i)
    (v : Value) (n : Nat) (xs : List Value) (hs : a.eval s = v) (hown : w.ownsRow base e size v n xs) (sx : Option Addr) (cx : Nat) (hx : a.eval x = .slice sx 0 cx)
    (h : wpList P ops Q rest (a.put o.dst v) w) : wpList P ops Q (o :: rest) a w :=
  wpList_plain hgd fun _ hK => by
    have hl : ∀ (y : Addr), (loadCells y 0).run P w = .ok #[] w := fun y => by simpa using run_loadCells_list (P := P) w y [] (by simp)
    have hf : (Builtin.firstCells i.size 0 (.slice sx 0 cx)).run P w = .ok #[] w := by
      cases sx with
      | none => rfl
      | some y => simp only [Builtin.firstCells, Nat.zero_mul]; exact hl y
    have hr : (Builtin.append_ #[t, t] o.type #[v, .slice sx 0 cx]).run P w = .ok v w := by
      rcases hown.2 with ⟨rfl, rfl⟩ | ⟨g, cap, cur, rfl, _, _, hnc, _⟩
      · simp [Builtin.append_, run_underlying ht, sizeOf, typeInfo, hi, Builtin.lenOf, hf, Sem.run_bind]
      · simp [Builtin.append_, run_underlying ht, sizeOf, typeInfo, hi, Builtin.lenOf, hf, hnc, Sem.run_bind, storeCells]
    unfold Oper.wp execOp
    simp only [ho, resolve, invoke, builtin, Sem.run_bind, Sem.run_pure, Result.andThen_ok, List.map_toArray, List.map_cons, List.map_nil, hs, hx, hr]
    exact hK _ _ h
/-- 'append(s, x...)', s the call's own, x any slice of numbers, which reads if it is not empty. -/
theorem wpList_append_sz {P : Program} {w : World} {ops : Array Oper} {rest : List Oper} {o : Oper} {a : Act} {Q : Exit → Act → World → Prop} (hgd : o.guard = none) (s x : Operand) (t : TypeId)
    (ho : o.op = .call { callee := .builtin .append, args := #[s, x], argTypes := #[t, t] })
    (base : Nat) (e : TypeId) (z : Value) (bytes : Nat) (ht : P.underlying t = some (.slice e)) (hi : (P.info? e).map (fun i => (i.zero, i.size, i.bytes)) = some (some z, 1, bytes))
    (hzs : z.cells.size = 1)
    (v : Value) (n : Nat) (xs : List Value) (hs : a.eval s = v) (hown : w.ownsRow base e 1 v n xs)
    (sx : Option Addr) (m cx : Nat) (news : List Value) (hx : a.eval x = .slice sx m cx) (hsl : 0 < m → Sl w 1 (.slice sx m cx) m news) (hnl : news.length = m) (h1 : ∀ u ∈ news, u.oneCell' = true)
    (h63 : n + m ≤ maxLen) (hbytes : (n + m) * bytes ≤ 140737488355328) (hbase : base ≤ w.heap.size)
    (h : ∀ v' w', w'.ownsRow base e 1 v' (n + m) (xs ++ news) → w.grownBy w' v.ownBlock → wpList P ops Q rest (a.put o.dst v') w') : wpList P ops Q (o :: rest) a w := by
  rcases Nat.eq_zero_or_pos m with h0 | h0
  · subst h0
    have hn : news = [] := List.eq_nil_of_length_eq_zero hnl
    subst hn
    obtain ⟨i, hi1, hi2, hi3, hi4⟩ := info_parts hi
    exact wpList_append_zero hgd s x t ho base e i 1 ht hi1 v n xs hs hown sx cx hx (h v w (by simpa using hown) (World.grownBy.refl _ _))
  · exact wpList_append_sl hgd s x t ho base e z 1 bytes ht hi hzs (by decide) v n xs hs hown _ m news hx (hsl h0) h1 h63 hbytes hbase h
end Go.Own
namespace Go.Own
open Go.RowKit
/-- 'append(s, x...)', s the call's own, x any slice of one-cell values: where the row then lies. -/
theorem wpList_append_szg {P : Program} {w : World} {ops : Array Oper} {rest : List Oper} {o : Oper} {a : Act} {Q : Exit → Act → World → Prop} (hgd : o.guard = none) (s x : Operand) (t : TypeId)
    (ho : o.op = .call { callee := .builtin .append, args := #[s, x], argTypes := #[t, t] })
    (base : Nat) (e : TypeId) (z : Value) (bytes : Nat) (ht : P.underlying t = some (.slice e)) (hi : (P.info? e).map (fun i => (i.zero, i.size, i.bytes)) = some (some z, 1, bytes))
    (hzs : z.cells.size = 1)
    (v : Value) (n : Nat) (xs : List Value) (hs : a.eval s = v) (hown : w.ownsRow base e 1 v n xs)
    (sx : Option Addr) (m cx : Nat) (news : List Value) (hx : a.eval x = .slice sx m cx) (hsl : 0 < m → Sl w 1 (.slice sx m cx) m news) (hnl : news.length = m) (h1 : ∀ u ∈ news, u.oneCell' = true)
    (h63 : n + m ≤ maxLen) (hbytes : (n + m) * bytes ≤ 140737488355328) (hbase : base ≤ w.heap.size)
    (h : ∀ v' w', w'.ownsRow base e 1 v' (n + m) (xs ++ news) → w.grownBy w' v.ownBlock → (∀ g, v'.ownBlock = some g → v.ownBlock = some g ∨ w.heap.size ≤ g) → wpList P ops Q rest (a.put o.dst v') w') : wpList P ops Q (o :: rest) a w := by
  obtain ⟨i, hi1, hi2, hi3, hi4⟩ := info_parts hi
  rcases Nat.eq_zero_or_pos m with h0 | h0
  · subst h0
    have hn : news = [] := List.eq_nil_of_length_eq_zero hnl
    subst hn
    exact wpList_append_zero hgd s x t ho base e i 1 ht hi1 v n xs hs hown sx cx hx (h v w (by simpa using hown) (World.grownBy.refl _ _) fun g hg => .inl hg)
  · obtain ⟨b, off, rfl, hC⟩ : ∃ b off, sx = some ⟨b, off, none⟩ ∧ Cells w b off news := by
      obtain ⟨_, ⟨h2, h3⟩ | ⟨b, off, cap', h2, _, _, h5, _⟩⟩ := hsl h0
      · omega
      · injection h2 with h2
        exact ⟨b, off, h2, h5⟩
    refine wpList_append_lies w hgd s x t ho base e i z 1 bytes ht hi1 hi2 hi3 hi4 hzs (by decide) v n xs hs hown ⟨b, off, none⟩ m cx news hx (by rw [hnl, Nat.mul_one]) (fun j u hj => by rw [Addr.add_lit]; exact hC j u hj) h1 h0 h63 hbytes hbase w.heap.size rfl ?_
    intro g cap w' h2 h3 h4 _
    refine h _ w' h2 h3 fun g' hg' => ?_
    obtain rfl : g = g' := by simpa [Value.ownBlock] using hg'
    exact h4.imp id fun e => by rw [e]; exact Nat.le_refl _
end Go.Own
end
