/- journal: the reference: Pack (under way). -/
import Derived.Test.YtbmnbdkbgpajeaaDoorZa24
import Derived.Test.YtbmnbdkbgpajeaaDoorZa23
import Derived.SizedLaws
/- journal: the reference: Pack (under way). -/
section
namespace Go.Proofs.YtbmnbdkbgpajeaaDoor
open Go.RowKit Go.Own Go.Jn Go.Disk Go.BigFrame Go.Sha
attribute [local irreducible] SqW
attribute [local go_sem] setCell_twice str_size op_str_eql op_str_neq
theorem own_news {w : World} {base n : Nat} {e : TypeId} {v : Value} {xs : List Value} (h : w.ownsRow base e 1 v n xs) (hn : 0 < n) : ∃ g c, v = .slice (some ⟨g, 0, none⟩) n c ∧ base ≤ g ∧ g < w.heap.size ∧ ∀ j u, xs[j]? = some u → w.cell? ((⟨g, 0, none⟩ : Addr).add j) = some u := by
  have hs := Sl.of_owns h
  obtain ⟨hl, h2 | ⟨g, cap, cur, rfl, hg, hgg, rest⟩⟩ := h
  · obtain ⟨_, h0⟩ := h2
    omega
  · obtain ⟨_, ⟨h2, h3⟩ | ⟨b, off, cap', h2, h3, h4, h5, h6⟩⟩ := hs
    · omega
    · injection h2 with h2 _ _
      injection h2 with h2
      injection h2 with e1 e2 _
      subst e1
      subst e2
      refine ⟨_, _, rfl, hg, h6, fun j u hj => ?_⟩
      have hadd : ∀ g : Nat, (⟨g, 0, none⟩ : Addr).add j = ⟨g, j, none⟩ := fun g => by unfold Addr.add; split <;> simp_all
      rw [hadd]
      have := h5 j u hj
      rwa [Nat.zero_add] at this
def padK (rest : List UInt8) (p : Nat) : List UInt8 := (List.range p).map fun i => rest.getD i 0
theorem padK_in {rest : List UInt8} {p : Nat} (h : p < rest.length) : padK rest (p + 1) = padK rest p ++ [rest[p]] := by
  unfold padK
  rw [List.range_succ, List.map_append, List.map_cons, List.map_nil, List.getD_eq_getElem?_getD, List.getElem?_eq_getElem h]
  rfl
theorem padK_out {rest : List UInt8} {p : Nat} (h : ¬ p < rest.length) : padK rest (p + 1) = padK rest p ++ [0] := by
  unfold padK
  rw [List.range_succ, List.map_append, List.map_cons, List.map_nil, List.getD_eq_getElem?_getD, List.getElem?_eq_none (by omega)]
  rfl
theorem padK_48 (rest : List UInt8) : padK rest 48 = rest.take 48 ++ List.replicate (48 - rest.length) 0 := by
  unfold padK
  apply List.ext_getElem?
  intro i
  by_cases hi : i < 48
  · rw [List.getElem?_map, List.getElem?_range hi, Option.map_some]
    by_cases hr : i < rest.length
    · rw [List.getElem?_append_left (by rw [List.length_take]; omega), List.getElem?_take_of_lt hi, List.getD_eq_getElem?_getD, List.getElem?_eq_getElem hr]
      rfl
    · rw [List.getElem?_append_right (by rw [List.length_take]; omega), List.length_take, List.getElem?_replicate, if_pos (by omega), List.getD_eq_getElem?_getD, List.getElem?_eq_none (by omega)]
      rfl
  · rw [List.getElem?_eq_none (by simp; omega), List.getElem?_eq_none (by simp; omega)]
theorem cut48 {t : List UInt8} {q : Nat} (h : q < cntN t.length) (h8 : t.length ≤ 8000) : 48 * q ≤ t.length := by
  unfold cntN at h
  rw [if_neg (by omega)] at h
  split at h <;> omega
theorem slice_strL (W : World) (bs : List UInt8) (lo : Nat) (h2 : lo ≤ bs.length) : (Instr.slice 9 (str bs) (some (.int .i64 (lo : Int))) none none).run Tryd.prog W = .ok (str (bs.drop lo)) W := by
  rw [run_slice_string_l (ht := hTs) (h0 := by omega) (h1 := by rw [str_size]; omega)]
  congr 2
  apply ByteArray.ext
  simp
  exact List.take_of_length_le (by rw [List.length_drop]; exact Nat.le_of_eq (by simp [ByteArray.size]))
set_option maxRecDepth 100000 in
set_option maxHeartbeats 1600000 in
theorem rpack_ok (w : World) (n : Nat) (t : List UInt8) (hn : 1 ≤ n ∧ n ≤ 4096) (ht : t.length ≤ 8000) (hK : Cells w 0 0 (Kt.map U)) (h0 : 0 < w.heap.size) :
    Calls Tryd.prog 7 #[.int .i64 n, str t] w fun e w' => ∃ v, e = .returned (.tuple #[v, .int .i64 0]) ∧ w'.ownsRow w.heap.size 9 1 v (cntN t.length) ((pack n t).map str) ∧ Below w.heap.size w w' := by
  have hni : ¬ (n : Int) < 1 := by omega
  have hnj : ¬ (4096 : Int) < (n : Int) := by omega
  have hti : ¬ (8000 : Int) < (t.length : Int) := by omega
  have HCN : Hid (∀ W, Calls Tryd.prog 12 #[.int .i64 (t.length : Int)] W fun e w' => e = .returned (.int .i64 (cntN t.length : Int)) ∧ w' = W) := Lib.hid fun W => by
    have := rcount_any (t.length : Int) W
    have e : cntI (t.length : Int) = (cntN t.length : Int) := by unfold cntI; rw [if_neg (by omega)]; simp
    rw [e] at this
    exact this
  have hc2 := cntN_le (n := t.length) ht
  have hcut : ∀ q, q < cntN t.length → 48 * q ≤ t.length := fun q h => cut48 h ht
  have HCUT := Lib.hid hcut; clear hcut
  obtain ⟨c, hc⟩ : ∃ c, c = cntN t.length := ⟨_, rfl⟩
  rw [← hc] at HCN HCUT hc2 ⊢
  have HC := Lib.hid hc; clear hc
  obtain ⟨B, hB⟩ : ∃ B, B = w.heap.size := ⟨_, rfl⟩
  rw [← hB]
  have HB := Lib.hid hB; clear hB
  go_enter Tryd.func7, Tryd.ntmps7
  go_wp2_with fail
  go_loopw [6, 7] (fun v x wr => ∃ q : Nat, q ≤ c ∧ x = .int .i64 q ∧ Hid (wr.ownsRow B 9 1 v q (((List.range q).map (sect n t)).map str)) ∧ Hid (Below B w wr)) (fun _ x _ => c - (jInt x).toNat)
  case atStart => exact ⟨0, Nat.zero_le _, rfl, Lib.hid (World.ownsRow_nil _ _ _ _), Lib.hid (Below.refl _ _)⟩
  case round =>
    obtain ⟨q, hq, rfl, hR, hW⟩ := hrel
    obtain ⟨so, co, rfl, _⟩ := own_slice hR.out
    have hsz : B ≤ wr.heap.size := by have := hW.out.size; have := HB.out; omega
    by_cases hlt : q < c
    · have hlc : (q : Int) < c := by omega
      have h48 := HCUT.out q hlt
      obtain ⟨rest, hrest⟩ : ∃ r, r = t.drop (48 * q) := ⟨_, rfl⟩
      have hsl : ∀ W, (Instr.slice 9 (str t) (some (.int .i64 (48 * (q : Int)))) none none).run Tryd.prog W = .ok (str rest) W := fun W => by
        have := slice_strL W t (48 * q) h48
        rw [← hrest] at this
        rw [show (48 * (q : Int)) = ((48 * q : Nat) : Int) by omega]
        exact this
      have hrl : rest.length ≤ 8000 := by rw [hrest, List.length_drop]; omega
      have HREST := Lib.hid hrest; clear hrest
      go_wp2_with (refine (HCN.out _).mono ?_; rintro e w2 ⟨rfl, hw2⟩; subst hw2)
      have hbw : Below w2.heap.size w2 w2 := Below.refl _ _
      refine (small_any w2 n 4 (by decide) (by omega)).mono ?_
      rintro e w3 ⟨v3, rfl, o3, b3⟩
      obtain ⟨s3, c3, rfl, _⟩ := own_slice o3
      have O3 := Lib.hid o3; clear o3
      have B3 := Lib.hid b3; clear b3 hbw
      go_wp2_with fail
      refine (small_any w3 q 2 (by decide) (by omega)).mono ?_
      rintro e w4 ⟨v4, rfl, o4, b4⟩
      obtain ⟨A, hA⟩ : ∃ A, A = w2.heap.size := ⟨_, rfl⟩
      obtain ⟨i, hi1, hi2, hi3, hi4⟩ := info_parts infoU8k
      have HI := Lib.hid (show i.zero = some (.int .u8 0) ∧ i.size = 1 ∧ i.bytes = 1 from ⟨hi2, hi3, hi4⟩)
      have HI1 := Lib.hid hi1; clear hi1 hi2 hi3 hi4
      have r4 := own_below O3.out b4
      have z4 : A ≤ w4.heap.size := by have h1 := B3.out.size; have h2 := b4.size; omega
      have x4 : Below A w2 w4 := by rw [hA]; exact B3.out.trans (b4.mono B3.out.size)
      rw [← hA] at r4
      obtain ⟨g4, c4, rfl, _, _, nw4⟩ := own_news o4 (by decide)
      have R4 := Lib.hid r4; clear r4 O3 B3
      have X4 := Lib.hid x4; clear x4 b4
      have N4 := Lib.hid nw4; clear nw4 o4
      have HA := Lib.hid hA; clear hA
      go_wp2_with (refine wpList_append_lies _ rfl _ _ 36 rfl A 5 i (.int .u8 0) 1 1 hTu8k HI1.out HI.out.1 HI.out.2.1 HI.out.2.2 rfl (by decide) _ 4 _ rfl R4.out ⟨g4, 0, none⟩ 2 c4 ((le 2 q).map byv) rfl (by simp [le_length]) N4.out (bytes_oneCell _) (by decide) (by unfold maxLen; omega) (by omega) z4 _ rfl ?_)
      intro g5 p5 w5 m1 m2 m3 m4
      have x5 : Below A w2 w5 := grown_below (base := A) X4.out R4.out m2 z4
      have M5 := Lib.hid m1; clear m1 m2 m3 R4 N4
      have X5 := Lib.hid x5; clear x5 X4
      go_wp2_with fail
      refine (small_any w5 rest.length 2 (by decide) (by omega)).mono ?_
      rintro e w6 ⟨v6, rfl, o6, b6⟩
      have r6 := own_below M5.out b6
      have z6 : A ≤ w6.heap.size := by have h1 := X5.out.size; have h2 := b6.size; have := HA.out; omega
      have x6 : Below A w2 w6 := X5.out.trans (b6.mono (by have h1 := X5.out.size; have := HA.out; omega))
      obtain ⟨g6, c6, rfl, _, _, nw6⟩ := own_news o6 (by decide)
      have R6 := Lib.hid r6; clear r6 M5
      have X6 := Lib.hid x6; clear x6 b6 X5
      have N6 := Lib.hid nw6; clear nw6 o6
      go_wp2_with (refine wpList_append_lies _ rfl _ _ 36 rfl A 5 i (.int .u8 0) 1 1 hTu8k HI1.out HI.out.1 HI.out.2.1 HI.out.2.2 rfl (by decide) _ (4 + 2) _ rfl R6.out ⟨g6, 0, none⟩ 2 c6 ((le 2 rest.length).map byv) rfl (by simp [le_length]) N6.out (bytes_oneCell _) (by decide) (by unfold maxLen; omega) (by omega) z6 _ rfl ?_)
      intro g7 p7 w7 m1 m2 m3 m4
      have x7 : Below A w2 w7 := grown_below (base := A) X6.out R6.out m2 z6
      have M7 := Lib.hid m1; clear m1 m2 m3 R6 N6
      have X7 := Lib.hid x7; clear x7 X6
      go_wp2_with fail
      obtain ⟨hd, hhd⟩ : ∃ hd, hd = le 4 n ++ (le 2 q ++ le 2 rest.length) := ⟨_, rfl⟩
      have y7 : w7.ownsRow A 5 1 (.slice (some ⟨g7, 0, none⟩) (4 + 2 + 2) p7) (8 + 0) ((hd ++ padK rest 0).map byv) := by
        have := M7.out
        rw [← List.map_append, ← List.map_append] at this
        first | rw [List.append_assoc] at this | skip
        rw [hhd, show padK rest 0 = [] from rfl, List.append_nil]
        exact this
      have Y7 := Lib.hid y7; clear y7 M7
      have HHD := Lib.hid hhd; clear hhd
      go_loopw [9, 10] (fun v x wi => ∃ p : Nat, p ≤ 48 ∧ x = .int .i64 p ∧ Hid (wi.ownsRow A 5 1 v (8 + p) ((hd ++ padK rest p).map byv)) ∧ Hid (Below A w2 wi)) (fun _ x _ => 48 - (jInt x).toNat)
      case atStart => exact ⟨0, by omega, rfl, Y7, X7⟩
      case round =>
        clear Y7 X7
        obtain ⟨p, hp, rfl, hRb, hWb⟩ := hrel
        obtain ⟨sb, cb, rfl, _⟩ := own_slice hRb.out
        have zi : A ≤ wr.heap.size := by have h1 := hWb.out.size; have := HA.out; omega
        by_cases hpl : p < 48
        · have hpi : (p : Int) < 48 := by omega
          by_cases hpr : p < rest.length
          · have hpj : (p : Int) < rest.length := by omega
            obtain ⟨u, hu⟩ : ∃ u, u = rest[p] := ⟨_, rfl⟩
            have hix := fun W => str_index W rest p u hpr (by rw [hu, List.getD_eq_getElem?_getD, List.getElem?_eq_getElem hpr]; rfl)
            have hps := padK_in (p := p) hpr
            rw [← hu] at hps
            have HPS := Lib.hid hps; clear hps hu
            go_wp2_with (refine wpList_append_lies _ rfl _ _ 36 rfl A 5 i (.int .u8 0) 1 1 hTu8k HI1.out HI.out.1 HI.out.2.1 HI.out.2.2 rfl (by decide) _ (8 + p) _ rfl (own_below hRb.out (alloc_below _ _)) ⟨wr.heap.size, 0, none⟩ 1 1 [_] rfl rfl (World.news_of_block (Blk.new wr _ 5)) (by intro u hu; simp at hu; rw [hu]; rfl) (by decide) (by unfold maxLen; omega) (by omega) (by simp; omega) _ rfl ?_)
            intro g9 p9 w9 m1 m2 m3 m4
            have x9 : Below A w2 w9 := grown_below (base := A) (hWb.out.alloc (by have := HA.out; omega) _) (own_below hRb.out (alloc_below wr _)) m2 (by simp; omega)
            have y9 : w9.ownsRow A 5 1 (.slice (some ⟨g9, 0, none⟩) (8 + p + 1) p9) (8 + (p + 1)) ((hd ++ padK rest (p + 1)).map byv) := by
              rw [HPS.out, List.map_append, List.map_append]
              exact m1
            have X9 := Lib.hid x9; clear x9
            have Y9 := Lib.hid y9; clear y9 m1 m2 m3 hRb hWb
            go_wp2
            go_roundw
            case rel => exact ⟨p + 1, by omega, by go_num, Y9, X9⟩
            case measure => simp [jInt]; omega
          · have hpj : ¬ (p : Int) < rest.length := by omega
            have hps := padK_out (p := p) hpr
            have HPS := Lib.hid hps; clear hps
            go_wp2_with (refine wpList_append_lies _ rfl _ _ 36 rfl A 5 i (.int .u8 0) 1 1 hTu8k HI1.out HI.out.1 HI.out.2.1 HI.out.2.2 rfl (by decide) _ (8 + p) _ rfl (own_below hRb.out (alloc_below _ _)) ⟨wr.heap.size, 0, none⟩ 1 1 [_] rfl rfl (World.news_of_block (Blk.new wr _ 5)) (by intro u hu; simp at hu; rw [hu]; rfl) (by decide) (by unfold maxLen; omega) (by omega) (by simp; omega) _ rfl ?_)
            intro g9 p9 w9 m1 m2 m3 m4
            have x9 : Below A w2 w9 := grown_below (base := A) (hWb.out.alloc (by have := HA.out; omega) _) (own_below hRb.out (alloc_below wr _)) m2 (by simp; omega)
            have y9 : w9.ownsRow A 5 1 (.slice (some ⟨g9, 0, none⟩) (8 + p + 1) p9) (8 + (p + 1)) ((hd ++ padK rest (p + 1)).map byv) := by
              rw [HPS.out, List.map_append, List.map_append]
              exact m1
            have X9 := Lib.hid x9; clear x9
            have Y9 := Lib.hid y9; clear y9 m1 m2 m3 hRb hWb
            go_wp2
            go_roundw
            case rel => exact ⟨p + 1, by omega, by go_num, Y9, X9⟩
            case measure => simp [jInt]; omega
        · obtain rfl : p = 48 := by omega
          have eh : hd ++ padK rest 48 = head n q rest := by
            rw [HHD.out, padK_48]
            unfold head
            simp only [List.append_assoc]
          have hsl := Sl.of_owns hRb.out
          rw [eh] at hsl
          obtain ⟨hdq, hhq⟩ : ∃ h, h = head n q rest := ⟨_, rfl⟩
          rw [← hhq] at hsl
          have h56 : hdq.length = 56 := by have := hsl.1; simpa using this
          have hsl2 : Sl wr 1 (.slice sb hdq.length cb) hdq.length (hdq.map byv) := by rw [h56]; exact hsl
          have hck := checked_any wr hdq sb cb hsl2 (by omega) ((hK.below hW.out (by have := HB.out; omega)).below hWb.out (by have := HA.out; have := HB.out; omega)) (by have h1 := hWb.out.size; have := HA.out; have := HB.out; omega)
          rw [h56] at hck
          have hse : stamp hdq = sect n t q := by rw [hhq, HREST.out]; rfl
          have HCK := Lib.hid hck; clear hck hsl hsl2 eh
          have HSE := Lib.hid hse; clear hse hhq
          go_wp2_with fail
          refine HCK.out.mono ?_
          rintro e w8 ⟨rfl, b8⟩
          have b28 : Below w2.heap.size w2 w8 := by rw [← HA.out]; exact hWb.out.trans (b8.mono (by have h1 := hWb.out.size; have := HA.out; omega))
          have r8 := own_below hR.out b28
          have W8 : Below B w w8 := hW.out.trans (b28.mono hsz)
          have R8 := Lib.hid r8; clear r8
          have HW8 := Lib.hid W8; clear W8
          have z8 : B ≤ w8.heap.size := Nat.le_trans hsz b28.size
          clear b28 b8 hRb hWb HCK
          rw [HSE.out]
          obtain ⟨i2, hi1, hi2, hi3, hi4⟩ := info_parts infoStr
          have HJ := Lib.hid (show i2.zero = some (str []) ∧ i2.size = 1 ∧ i2.bytes = 16 from ⟨hi2, hi3, hi4⟩)
          have HJ1 := Lib.hid hi1; clear hi1 hi2 hi3 hi4
          go_wp2_with (refine wpList_append_lies _ rfl _ _ 23 rfl B 9 i2 (str []) 1 16 hTss HJ1.out HJ.out.1 HJ.out.2.1 HJ.out.2.2 rfl (by decide) _ q _ rfl (own_below R8.out (alloc_below _ _)) ⟨w8.heap.size, 0, none⟩ 1 1 [_] rfl rfl (World.news_of_block (Blk.new w8 _ 9)) (by intro u hu; simp at hu; rw [hu]; rfl) (by decide) (by unfold maxLen; omega) (by omega) (by simp; omega) _ rfl ?_)
          intro g9 p9 w9 m1 m2 m3 m4
          have x9 : Below B w w9 := grown_below (base := B) (HW8.out.alloc (by have := HB.out; omega) _) (own_below R8.out (alloc_below w8 _)) m2 (by simp; omega)
          have y9 : w9.ownsRow B 9 1 (.slice (some ⟨g9, 0, none⟩) (q + 1) p9) (q + 1) (((List.range (q + 1)).map (sect n t)).map str) := by
            rw [List.range_succ, List.map_append, List.map_append, List.map_map]
            exact m1
          have X9 := Lib.hid x9; clear x9
          have Y9 := Lib.hid y9; clear y9 m1 m2 m3 R8 HW8
          go_wp2
          go_roundw
          case rel => exact ⟨q + 1, by omega, by go_num, Y9, X9⟩
          case measure => simp [jInt]; omega
    · obtain rfl : q = c := by omega
      go_wp2_with (refine (HCN.out _).mono ?_; rintro e w2 ⟨rfl, hw2⟩; subst hw2)
      go_ret2
      refine ⟨_, rfl, ?_, hW.out⟩
      have := hR.out
      rw [HC.out] at this
      rw [HC.out]
      exact this
end Go.Proofs.YtbmnbdkbgpajeaaDoor
end
/- journal: the reference: Pack at any arguments. -/
section
namespace Go.Proofs.YtbmnbdkbgpajeaaDoor
open Go.RowKit Go.Own Go.Jn Go.Disk Go.BigFrame Go.Sha
attribute [local irreducible] SqW
attribute [local go_sem] setCell_twice str_size op_str_eql op_str_neq
set_option maxRecDepth 100000 in
theorem rpack_any (w : World) (n : Int) (t : List UInt8) (ht : t.length ≤ maxLen) (hK : Cells w 0 0 (Kt.map U)) (h0 : 0 < w.heap.size) :
    Calls Tryd.prog 7 #[.int .i64 n, str t] w fun e w' => ∃ v, e = .returned (.tuple #[v, .int .i64 (packE n t).2]) ∧ w'.ownsRow w.heap.size 9 1 v (packE n t).1.length ((packE n t).1.map str) ∧ Below w.heap.size w w' := by
  by_cases h1 : n < 1
  · have e : packE n t = ([], 1) := by unfold packE; rw [if_pos (.inl h1)]
    rw [e]
    go_enter Tryd.func7, Tryd.ntmps7
    go_wp2
    go_ret2
    exact ⟨_, rfl, World.ownsRow_nil _ _ _ _, Below.refl _ _⟩
  · by_cases h2 : 4096 < n
    · have e : packE n t = ([], 1) := by unfold packE; rw [if_pos (.inr h2)]
      rw [e]
      go_enter Tryd.func7, Tryd.ntmps7
      go_wp2
      go_ret2
      exact ⟨_, rfl, World.ownsRow_nil _ _ _ _, Below.refl _ _⟩
    · by_cases h3 : 8000 < t.length
      · have e : packE n t = ([], 4) := by unfold packE; rw [if_neg (by omega), if_pos h3]
        have h3i : (8000 : Int) < t.length := by omega
        rw [e]
        go_enter Tryd.func7, Tryd.ntmps7
        go_wp2
        go_ret2
        exact ⟨_, rfl, World.ownsRow_nil _ _ _ _, Below.refl _ _⟩
      · obtain ⟨m, rfl⟩ : ∃ m : Nat, n = m := ⟨n.toNat, by omega⟩
        rw [packE_ok (by omega) (by omega) (by omega)]
        refine (rpack_ok w m t ⟨by omega, by omega⟩ (by omega) hK h0).mono ?_
        rintro e w' ⟨v, rfl, h4, h5⟩
        refine ⟨v, rfl, ?_, h5⟩
        dsimp only
        rw [pack_len]
        exact h4
end Go.Proofs.YtbmnbdkbgpajeaaDoor
end
/- journal: the law JournalSectors. -/
section
namespace Go.Proofs.YtbmnbdkbgpajeaaDoor
open Go.RowKit Go.Own Go.Jn Go.Disk Go.BigFrame Go.Sha
attribute [local irreducible] SqW
attribute [local go_sem] setCell_twice str_size op_str_eql op_str_neq
theorem eql_part (W : World) (p : Prt) : (binOp .eql 30 (.agg #[.int .i64 (p.n : Int), .int .i64 (p.k : Int), .int .i64 (p.l : Int), str p.b, .bool p.ok]) (.agg #[.int .i64 (p.n : Int), .int .i64 (p.k : Int), .int .i64 (p.l : Int), str p.b, .bool p.ok])).run Tryd.prog W = .ok (.bool true) W := by
  have ht : Tryd.prog.underlying 30 = some (.struct (Tryd.prog.fieldsOf 30)) := by kernel_rfl
  have hp : Tryd.prog.stoodInHeld 30 = false := by kernel_rfl
  have hti : Tryd.prog.underlying 3 = some (.int .i64) := by kernel_rfl
  have hts : Tryd.prog.underlying 9 = some .string := by kernel_rfl
  have htb : Tryd.prog.underlying 4 = some .bool := by kernel_rfl
  rw [run_eql_struct, show (10000 : Nat) = 9999 + 1 from rfl, run_equalIn_struct W 9999 _ _ _ ht hp]
  obtain ⟨L, hL⟩ : ∃ L, L = (Tryd.prog.fieldsOf 30).toList := ⟨_, rfl⟩
  have hlen : L.length = 5 := by rw [hL]; kernel_rfl
  have n0 : ((L.getD 0 default).name == "_") = false := by rw [hL]; kernel_rfl
  have t0 : (L.getD 0 default).type = 3 := by rw [hL]; kernel_rfl
  have o0 : (L.getD 0 default).offset = 0 := by rw [hL]; kernel_rfl
  have n1 : ((L.getD 1 default).name == "_") = false := by rw [hL]; kernel_rfl
  have t1 : (L.getD 1 default).type = 3 := by rw [hL]; kernel_rfl
  have o1 : (L.getD 1 default).offset = 1 := by rw [hL]; kernel_rfl
  have n2 : ((L.getD 2 default).name == "_") = false := by rw [hL]; kernel_rfl
  have t2 : (L.getD 2 default).type = 3 := by rw [hL]; kernel_rfl
  have o2 : (L.getD 2 default).offset = 2 := by rw [hL]; kernel_rfl
  have n3 : ((L.getD 3 default).name == "_") = false := by rw [hL]; kernel_rfl
  have t3 : (L.getD 3 default).type = 9 := by rw [hL]; kernel_rfl
  have o3 : (L.getD 3 default).offset = 3 := by rw [hL]; kernel_rfl
  have n4 : ((L.getD 4 default).name == "_") = false := by rw [hL]; kernel_rfl
  have t4 : (L.getD 4 default).type = 4 := by rw [hL]; kernel_rfl
  have o4 : (L.getD 4 default).offset = 4 := by rw [hL]; kernel_rfl
  rw [← hL]
  obtain ⟨f0, f1, f2, f3, f4, rfl⟩ : ∃ f0 f1 f2 f3 f4, L = [f0, f1, f2, f3, f4] := by
    match L, hlen with
    | [a, b, c, d, e], _ => exact ⟨a, b, c, d, e, rfl⟩
  simp only [List.getD_cons_zero, List.getD_cons_succ] at n0 n1 n2 n3 n4 t0 t1 t2 t3 t4 o0 o1 o2 o3 o4
  have m0 : f0.name ≠ "_" := by simpa using n0
  have m1 : f1.name ≠ "_" := by simpa using n1
  have m2 : f2.name ≠ "_" := by simpa using n2
  have m3 : f3.name ≠ "_" := by simpa using n3
  have m4 : f4.name ≠ "_" := by simpa using n4
  clear hL ht hp n0 n1 n2 n3 n4
  simp [go_sem, hti, hts, htb, m0, m1, m2, m3, m4, t0, t1, t2, t3, t4, o0, o1, o2, o3, o4]
set_option maxRecDepth 100000 in
set_option maxHeartbeats 1600000 in
theorem sectors_any (w : World) (n : Int) (t s : List UInt8) (ht : t.length ≤ 140737488355328) (hs : s.length ≤ 140737488355328) (hK : Cells w 2 0 (Kt.map U)) (h1 : 2 < w.heap.size)
    (hR : Cells w 0 0 (Kt.map U)) (h0 : 0 < w.heap.size) :
    Calls Tryd.prog 3 #[.int .i64 n, str t, str s] w fun e w' => e = .returned (.bool true) ∧ Below w.heap.size w w' := by
  by_cases h9 : 9000 < t.length
  · have h9i : (9000 : Int) < t.length := by omega
    go_enter Tryd.func3, Tryd.ntmps3
    go_wp2_with fail
    refine (sanity_any w hK h1).mono ?_
    rintro e w1 ⟨rfl, b1⟩
    go_wp2
    go_ret
    exact ⟨rfl, b1⟩
  · have h9i : ¬ (9000 : Int) < t.length := by omega
    go_enter Tryd.func3, Tryd.ntmps3
    go_wp2_with fail
    refine (pack_any n t (by unfold maxLen; omega) w hK h1).mono ?_
    rintro e w1 ⟨v1, rfl, o1, b1⟩
    obtain ⟨s1, c1, rfl, _⟩ := own_slice o1
    have O1 := Lib.hid o1; clear o1
    go_wp2_with fail
    refine (rpack_any w1 n t (by unfold maxLen; omega) (hR.below b1 h0) (Nat.lt_of_lt_of_le h0 b1.size)).mono ?_
    rintro e w2 ⟨v2, rfl, o2, b2⟩
    obtain ⟨s2, c2, rfl, _⟩ := own_slice o2
    have O2 := Lib.hid o2; clear o2
    have b12 := b1.trans (b2.mono b1.size)
    have P1 := own_below O1.out b2
    go_wp2_with fail
    refine (unpackE_any s hs w2 (hK.below b12 h1) (Nat.lt_of_lt_of_le h1 b12.size)).mono ?_
    unfold prtC
    rintro e w3 ⟨rfl, b3⟩
    obtain ⟨p, hp⟩ : ∃ p, p = Jn.unpack s := ⟨_, rfl⟩
    rw [← hp]
    have b13 := b12.trans (b3.mono b12.size)
    go_wp2_with fail
    refine (runpack_any w3 s hs (hR.below b13 h0) (Nat.lt_of_lt_of_le h0 b13.size)).mono ?_
    rw [← hp]
    unfold prtV prtC
    rintro e w4 ⟨rfl, b4⟩
    have b14 := b13.trans (b4.mono b13.size)
    have P14 := own_below (own_below P1 b3) b4
    have P24 := own_below (own_below O2.out b3) b4
    obtain ⟨L, hL⟩ : ∃ L, L = (packE n t).1 := ⟨_, rfl⟩
    obtain ⟨er, her⟩ : ∃ er, er = (packE n t).2 := ⟨_, rfl⟩
    rw [← hL] at P14 P24 ⊢
    rw [← her]
    have hLm : L.length ≤ 1000000 := by
      rw [hL]
      unfold packE
      split
      · simp
      · split
        · simp
        · dsimp only
          rw [pack_len]
          have := (cntN_le (n := t.length) (by omega)).2
          omega
    have HP1 := Lib.hid P14; clear P14
    have HP2 := Lib.hid P24; clear P24 P1 O1 O2 hL her hp
    have HB4 := Lib.hid b14; clear b14 b13 b12 b1 b2 b3 b4
    go_wp2_with fail
    obtain ⟨W, hWe⟩ : ∃ W, w4.alloc (.cells #[.int .i64 (p.n : Int), .int .i64 (p.k : Int), .int .i64 (p.l : Int), .string ⟨p.b.toArray⟩, .bool p.ok] 30) = W := ⟨_, rfl⟩
    have bW : Below w4.heap.size w4 W := by rw [← hWe]; exact alloc_below _ _
    have kW : Blk W w4.heap.size [.int .i64 (p.n : Int), .int .i64 (p.k : Int), .int .i64 (p.l : Int), str p.b, .bool p.ok] 30 := by rw [← hWe]; exact Blk.new _ _ _
    rw [hWe]
    clear hWe
    have HBW := Lib.hid (HB4.out.trans (bW.mono HB4.out.size))
    have HQ1 := Lib.hid ((Sl.of_owns HP1.out).below bW)
    have HQ2 := Lib.hid ((Sl.of_owns HP2.out).below bW)
    clear bW HB4 HP1 HP2
    refine (sanity_any W (hK.below HBW.out h1) (Nat.lt_of_lt_of_le h1 HBW.out.size)).mono ?_
    rintro e w5 ⟨rfl, b5⟩
    have HS1 := Lib.hid (HQ1.out.below b5)
    have HS2 := Lib.hid (HQ2.out.below b5)
    have k5 := kW.below b5 kW.lt
    have HB5 := Lib.hid (HBW.out.trans (b5.mono HBW.out.size)); clear b5 HBW HQ1 HQ2
    go_wp2_with fail
    refine (sameTexts_any L L s1 s2 c1 c2 w5 HS1.out HS2.out (.inl hLm)).mono ?_
    rw [beq_self_eq_true]
    rintro e w6 ⟨rfl, b6⟩
    have HB6 := Lib.hid (HB5.out.trans (b6.mono HB5.out.size))
    have k6 := k5.below b6 k5.lt
    clear b6 HB5 HS1 HS2 k5 kW
    have HK6 := Lib.hid k6; clear k6
    have hq := fun W => eql_part W p
    have q0 : w6.cell? ⟨w4.heap.size, 0, none⟩ = some (.int .i64 (p.n : Int)) := HK6.out.cell rfl
    have q1 : w6.cell? ⟨w4.heap.size, 1, none⟩ = some (.int .i64 (p.k : Int)) := HK6.out.cell rfl
    have q2 : w6.cell? ⟨w4.heap.size, 2, none⟩ = some (.int .i64 (p.l : Int)) := HK6.out.cell rfl
    have q3 : w6.cell? ⟨w4.heap.size, 3, none⟩ = some (str p.b) := HK6.out.cell rfl
    have q4 : w6.cell? ⟨w4.heap.size, 4, none⟩ = some (.bool p.ok) := HK6.out.cell rfl
    go_wp2_with (first | (refine (count_any _ _).mono ?_; rintro e w7 ⟨rfl, hw7⟩; subst hw7) | (refine (rcount_any _ _).mono ?_; rintro e w7 ⟨rfl, hw7⟩; subst hw7))
    go_ret
    exact ⟨rfl, HB6.out⟩
end Go.Proofs.YtbmnbdkbgpajeaaDoor
end
/- JournalSectors: the row: for every input the law returns true and leaves its arguments alone. Conditions: the row's own, nothing more. -/
section
namespace Go.Proofs.YtbmnbdkbgpajeaaDoor
open Go.ChangeShapes Go.WideShapes Go.ChangeAt Go.WideMaps Go.WideElems Go.RowKit Go.Sha Go.Own Go.ChangeMaps
set_option maxRecDepth 100000 in
theorem journalSectors_lifted (os : Os) (started : os.Started) (H : Type) (enc : TypeId × Value → H) :
    ReturnsInHanded {} Tryd.checked os 3 .any (fun w args => (Rows.journalSectorsSpec.pre enc Tryd.prog Tryd.f3 [] false w args ∧ laidMetH Tryd.prog lay2 w) ∧ sizedMet enc Tryd.prog Tryd.f3 (OpenSpec.ofChange Rows.journalSectorsSpec) false w args)
      (Rows.journalSectorsSpec.post enc Tryd.prog Tryd.f3 false true false false) := by
  refine returnsInHanded_of_change_and (C := Tryd.checked) (X := fun w _ => laidMetH Tryd.prog lay2 w) (fun _ _ _ hh h => h.of_heap hh) ownK started (by kernel_rfl) Tryd.func3
    (ChangeSpec.witness_shaped (enc := enc) (C := Tryd.checked) (os := os) (X := fun w _ => laidMetH Tryd.prog lay2 w) false (World.doorLaid Tryd.prog 4000 os) #[.int .i64 0, .string ⟨#[]⟩, .string ⟨#[]⟩] 8 rfl (World.shaped_of_RefB (by kernel_rfl) (by kernel_rfl)) (by kernel_rfl) (by kernel_rfl) (by kernel_rfl) (door_met2 os _)) ?_
  intro W base args ds gs before hval0 hW _ hq hL hSz
  have hval : ∀ (j : Nat) t v, Tryd.f3.params[j]? = some t → args[j]? = some v → Value.okWide Tryd.prog W .any base t v := hval0
  have hW' := hW
  obtain ⟨p, q, hA0, hV, rfl, hfz, hnd⟩ := hW
  have hA : DataW.TrodAll enc Tryd.prog W 0 (fun _ => true) true Tryd.f3.params.toList args.toList ds p := hA0
  rw [Tryd.params3] at hA hval
  obtain ⟨v0, v1, v2, d0, d1, d2, p0, p1, p2, rfl, rfl, rfl, h0, h1, h2⟩ := trodAll_three hA
  obtain ⟨rfl, rfl⟩ := trodVars_none hV
  have k0 := hval 0 3 v0 rfl rfl
  obtain ⟨z0, rfl, rfl, rfl, wf0⟩ := open_int Tryd.underlying3 k0 h0
  have k1 := hval 1 9 v1 rfl rfl
  obtain ⟨s1, rfl, rfl, rfl, z1⟩ := open_string Tryd.underlying9 k1 h1
  have k2 := hval 2 9 v2 rfl rfl
  obtain ⟨s2, rfl, rfl, rfl, z2⟩ := open_string Tryd.underlying9 k2 h2
  obtain ⟨⟨hR, hr⟩, hK, hk⟩ := of_laid2 hL
  have y1 : s1.data.toList.length ≤ 140737488355328 := Nat.le_trans (sized_string hq (j := 1) (t := 9) (by rw [Tryd.params3]; rfl) rfl) (by decide)
  have y2 : s2.data.toList.length ≤ 140737488355328 := Nat.le_trans (sized_string hq (j := 2) (t := 9) (by rw [Tryd.params3]; rfl) rfl) (by decide)
  have hw := sectors_any W z0 s1.data.toList s2.data.toList y1 y2 hK hk hR hr
  simp only [str, Array.toArray_toList] at hw
  refine hw.mono fun e W' ⟨he, hb⟩ => ?_
  subst he
  exact ⟨_, rfl, law_post laidOutK (by kernel_rfl) (show Tryd.f3.resultTypes = #[4] by kernel_rfl) Tryd.underlying4 rfl ⟨rfl, rfl, rfl⟩ hW' hb⟩
theorem sectors_holds : Rows.JournalSectorsSaid :=
  OpenClaim.holds_of_wide 3 Tryd.f3 rfl rfl rfl rfl rfl rfl rfl ⟨rfl, rfl, rfl, rfl, rfl⟩ rfl rfl rfl rfl rfl (by kernel_rfl) Tryd.func3 (by kernel_rfl)
    (of_decide_eq_true (by kernel_rfl)) (by unfold Func.isWrapper; first | (rw [if_pos (by decide +kernel)]; kernel_rfl) | (rw [if_neg (by decide +kernel)]; exact ⟨rfl, rfl⟩))
    (fun os started H enc _ => journalSectors_lifted os started H enc)
#print axioms sectors_holds
end Go.Proofs.YtbmnbdkbgpajeaaDoor
end
