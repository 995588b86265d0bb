/- order: the reference's Div of numbers without a sign. -/
import Derived.Test.YtnkinjilnccmfaaO7
import Derived.Test.YtnkinjilnccmfaaRf
namespace Go.Own
open Go.RowKit
theorem sl_cap {w : World} {s : Option Addr} {n m cap : Nat} {vs : List Value} (h : Sl w 1 (.slice s n cap) m vs) : n ≤ cap := by
  obtain ⟨_, _, e, h, _⟩ := sl_slice h; injection e with _ e2 e3; omega
/-- A block of an integer's two fields is none of digits. -/
theorem sl_keep {w w' : World} {v : Value} {n g : Nat} {l : List Nat} {x : Bool} {s : Value} {t : TypeId} (h : Sl w 1 v n (nts l)) (hs : ∀ k z, s ≠ .int k z) (hb : Blk w g [.bool x, s] t) (ho : Oth g w w') : Sl w' 1 v n (nts l) := by
  obtain ⟨h1, h2 | ⟨b, off, cap, h3, h4, h5, h6, h7⟩⟩ := h
  · exact ⟨h1, .inl h2⟩
  · refine ⟨h1, .inr ⟨b, off, cap, h3, h4, h5, fun i u hi => ?_, by rw [ho.size]; exact h7⟩⟩
    have h8 := h6 i u hi
    by_cases e : b = g
    · exfalso
      subst e
      rw [cell_of_row w b (off + i) _ t (0, 0) hb] at h8
      unfold nts at hi
      rw [List.getElem?_map] at hi
      obtain ⟨d, _, rfl⟩ := Option.map_eq_some_iff.1 hi
      match off + i, h8 with
      | 0, h8 => simp at h8
      | 1, h8 => simp at h8; exact hs _ _ h8
      | k + 2, h8 => simp at h8
    · exact (ho.cell (p := ⟨b, off + i, none⟩) e).trans h8
end Go.Own
namespace Go.Proofs.Ytnkinjilnccmfaa
open Go.RowKit Go.Own Go.BigFrame Go.Big
theorem aggInt : (match Try.prog.underlying 52 with | some (.struct _) | some (.array _ _) => true | _ => false) = true := by kernel_rfl
attribute [local irreducible] SqC.SqW
set_option maxRecDepth 100000 in
set_option maxHeartbeats 3200000 in
theorem div_any (a b : List Nat) (s t : Option Addr) (ca cb : Nat) (w : World) (ha : Dig a) (hb : Big.Can b) (hb0 : b ≠ []) (hl : Sz w (.slice s a.length ca) a.length (nts a)) (hm : Sz w (.slice t b.length cb) b.length (nts b)) (hla : a.length + 8 ≤ LL) (hlb : b.length + 8 ≤ LL) (hcb : b.length ≤ cb) :
    Calls Try.prog 79 #[.agg #[.bool false, .slice s a.length ca], .agg #[.bool false, .slice t b.length cb]] w fun e w' => ∃ v r sr cr, e = .returned (.tuple #[v, .agg #[.bool false, .slice sr r.length cr]]) ∧ (∃ sq nq cq, v = .agg #[.bool false, .slice sq nq cq]) ∧ Sl w' 1 (.slice sr r.length cr) r.length (nts r) ∧ Big.Can r ∧ val r < val b ∧ Below w.heap.size w w' := by
  obtain ⟨W1, hW1⟩ : ∃ W1, W1 = w.alloc (.cells #[.bool false, .slice s a.length ca] 52) := ⟨_, rfl⟩
  obtain ⟨W2, hW2⟩ : ∃ W2, W2 = W1.alloc (.cells #[.bool false, .slice t b.length cb] 52) := ⟨_, rfl⟩
  obtain ⟨W3, hW3⟩ : ∃ W3, W3 = W2.alloc (.cells #[.bool false, .slice none 0 0] 52) := ⟨_, rfl⟩
  obtain ⟨W4, hW4⟩ : ∃ W4, W4 = W3.alloc (.cells #[.bool false, .slice none 0 0] 52) := ⟨_, rfl⟩
  have z1 : W1.heap.size = w.heap.size + 1 := by rw [hW1]; exact alloc_size _ _
  have z2 : W2.heap.size = w.heap.size + 1 + 1 := by rw [hW2, alloc_size, z1]
  have z3 : W3.heap.size = w.heap.size + 1 + 1 + 1 := by rw [hW3, alloc_size, z2]
  have z4 : W4.heap.size = w.heap.size + 1 + 1 + 1 + 1 := by rw [hW4, alloc_size, z3]
  have b1 : Below w.heap.size w W1 := by rw [hW1]; exact alloc_below _ _
  have b2 : Below W1.heap.size W1 W2 := by rw [hW2]; exact alloc_below _ _
  have b3 : Below W2.heap.size W2 W3 := by rw [hW3]; exact alloc_below _ _
  have b4 : Below W3.heap.size W3 W4 := by rw [hW4]; exact alloc_below _ _
  have B1 : Blk W4 w.heap.size [.bool false, .slice s a.length ca] 52 := (((by rw [hW1]; exact Blk.new w #[.bool false, .slice s a.length ca] 52 : Blk W1 w.heap.size [.bool false, .slice s a.length ca] 52).below b2 (by omega)).below b3 (by omega)).below b4 (by omega)
  have B2 : Blk W4 (w.heap.size + 1) [.bool false, .slice t b.length cb] 52 := by
    have : Blk W2 W1.heap.size [.bool false, .slice t b.length cb] 52 := by rw [hW2]; exact Blk.new W1 #[.bool false, .slice t b.length cb] 52
    rw [← z1]; exact (this.below b3 (by omega)).below b4 (by omega)
  have B3 : Blk W4 (w.heap.size + 1 + 1) [.bool false, .slice none 0 0] 52 := by
    have : Blk W3 W2.heap.size [.bool false, .slice none 0 0] 52 := by rw [hW3]; exact Blk.new W2 #[.bool false, .slice none 0 0] 52
    rw [← z2]; exact this.below b4 (by omega)
  have B4 : Blk W4 (w.heap.size + 1 + 1 + 1) [.bool false, .slice none 0 0] 52 := by
    rw [hW4, ← z3]; exact Blk.new W3 #[.bool false, .slice none 0 0] 52
  have b04 : Below w.heap.size w W4 := (b1.trans (b2.mono b1.size)).trans ((b3.trans (b4.mono b3.size)).mono (Nat.le_trans b1.size b2.size))
  have c0 : W4.cell? ⟨w.heap.size, 0, none⟩ = some (.bool false) := B1.cell rfl
  have c1 : W4.cell? ⟨w.heap.size, 1, none⟩ = some (.slice s a.length ca) := B1.cell rfl
  have c2 : W4.cell? ⟨w.heap.size + 1, 0, none⟩ = some (.bool false) := B2.cell rfl
  have c3 : W4.cell? ⟨w.heap.size + 1, 1, none⟩ = some (.slice t b.length cb) := B2.cell rfl
  have hdv := divided_any a b s t ca cb W4 ha hb hb0 (hl.below b04) (hm.below b04) hla hlb hcb
  have hbl : 0 < b.length := by
    rcases Nat.eq_zero_or_pos b.length with h | h
    · exact absurd (List.length_eq_zero_iff.1 h) hb0
    · exact h
  have hbl1 : ((b.length : Int) == 0) = false := beq_eq_false_iff_ne.2 (by omega)
  have hbl2 : ((b.length : Int) = 0) = False := eq_false (by omega)
  have hbl3 : (b.length = 0) = False := eq_false (by omega)
  have hbl4 : (b = []) = False := eq_false hb0
  have HBC := Lib.hid hb
  have HLB := Lib.hid hlb
  clear ha hb hl hm hla hcb
  have HDV := Lib.hid hdv; clear hdv
  have HB1 := Lib.hid B1; clear B1
  have HB2 := Lib.hid B2; clear B2
  have HB3 := Lib.hid B3; clear B3
  have HB4 := Lib.hid B4; clear B4
  have H04 := Lib.hid b04; clear b04 b1 b2 b3 b4
  have Z4 := Lib.hid z4; clear z4 z1 z2 z3
  have HW1 := Lib.hid hW1; clear hW1
  have HW2 := Lib.hid hW2; clear hW2
  have HW3 := Lib.hid hW3; clear hW3
  have HW4 := Lib.hid hW4; clear hW4
  go_enter Try.func79, Try.ntmps79
  go_step
  go_wp2_with (fail)
  rw [← HW1.out, ← HW2.out, ← HW3.out, ← HW4.out]
  clear c0 c1 c2 c3 hbl1 hbl2 hbl3 hbl4
  refine HDV.out.mono ?_
  rintro e w5 ⟨q, r, sq, cq, sr, cr, rfl, hq, hr, hqc, hql, hrc, hrv, b5⟩
  have B1' := (HB1.out).below b5 (HB1.out).lt
  have B2' := (HB2.out).below b5 (HB2.out).lt
  have c0 : w5.cell? ⟨w.heap.size, 0, none⟩ = some (.bool false) := B1'.cell rfl
  have c2 : w5.cell? ⟨w.heap.size + 1, 0, none⟩ = some (.bool false) := B2'.cell rfl
  have hrcr := sl_cap hr
  have hrl : r.length ≤ b.length := Nat.le_of_not_lt fun h => by
    have := len_lt (HBC.out).1 hrc h
    omega
  have hnq := normal_any false q sq cq w5 (Sz.of hq) (by omega) hqc
  have HNQ := Lib.hid hnq; clear hnq hq hqc hql
  have HR := Lib.hid hr; clear hr
  have HRC := Lib.hid hrc; clear hrc
  have HRV := Lib.hid hrv; clear hrv
  have HB5 := Lib.hid b5; clear b5 B1' B2'
  have HRL := Lib.hid hrl; clear hrl
  have HRCR := Lib.hid hrcr; clear hrcr
  go_wp2_with (fail)
  refine HNQ.out.mono ?_
  rintro e w6 ⟨s6, c6, rfl, hs6, _, _, b6⟩
  have ebf : (false && !(norm q).isEmpty) = false := rfl
  rw [ebf]
  obtain ⟨Q, hQ⟩ : ∃ Q, Q = norm q := ⟨_, rfl⟩
  rw [← hQ] at hs6 ⊢
  clear hQ ebf hs6 c0 c2
  have b6' : Below W4.heap.size W4 w6 := (HB5.out).trans (b6.mono (HB5.out).size)
  have hr6 := (HR.out).below b6
  have HR6 := Lib.hid hr6; clear hr6
  have HB6 := Lib.hid b6'; clear b6' b6
  obtain ⟨U6, hU6⟩ : ∃ U6, U6 = w6.alloc (.cells #[.bool false, .slice s6 Q.length c6] 52) := ⟨_, rfl⟩
  have bU6 : Below W4.heap.size W4 U6 := by rw [hU6]; exact (HB6.out).trans ((alloc_below _ _).mono (HB6.out).size)
  have kU6 : Blk U6 w6.heap.size [.bool false, .slice s6 Q.length c6] 52 := by rw [hU6]; exact Blk.new w6 #[.bool false, .slice s6 Q.length c6] 52
  have hr6 : Sl U6 1 (.slice sr r.length cr) r.length (nts r) := by rw [hU6]; exact (HR6.out).alloc _
  have hnr := normal_any false r sr cr U6 (Sz.of hr6) (by have := HRL.out; have := HLB.out; omega) HRCR.out
  rw [(HRC.out).2] at hnr
  have HNR := Lib.hid hnr; clear hnr hr6
  have BU6 := Lib.hid bU6; clear bU6
  have KU6 := Lib.hid kU6; clear kU6
  have HU6 := Lib.hid hU6; clear hU6
  go_wp2_with (fail)
  rw [← HU6.out]
  refine HNR.out.mono ?_
  rintro e w7 ⟨s7, c7, rfl, hs7, _, _, b7⟩
  have ebf : (false && !r.isEmpty) = false := rfl
  rw [ebf]
  have b7' : Below W4.heap.size W4 w7 := (BU6.out).trans (b7.mono (BU6.out).size)
  obtain ⟨U7, hU7⟩ : ∃ U7, U7 = w7.alloc (.cells #[.bool false, .slice s7 r.length c7] 52) := ⟨_, rfl⟩
  have bU7 : Below W4.heap.size W4 U7 := by rw [hU7]; exact b7'.trans ((alloc_below _ _).mono b7'.size)
  have bU67 : Below U6.heap.size U6 U7 := by rw [hU7]; exact b7.trans ((alloc_below _ _).mono b7.size)
  have kU7 : Blk U7 w7.heap.size [.bool false, .slice s7 r.length c7] 52 := by rw [hU7]; exact Blk.new w7 #[.bool false, .slice s7 r.length c7] 52
  have k67 := (KU6.out).below bU67 (KU6.out).lt
  have sU7 : Sl U7 1 (.slice s7 r.length c7) r.length (nts r) := by rw [hU7]; exact hs7.alloc _
  have c0 : U7.cell? ⟨w.heap.size, 0, none⟩ = some (.bool false) := ((HB1.out).below bU7 (HB1.out).lt).cell rfl
  have k3 := (HB3.out).below bU7 (HB3.out).lt
  have k4 := (HB4.out).below bU7 (HB4.out).lt
  have hz7 : W4.heap.size ≤ w7.heap.size := b7'.size
  have hz6 : W4.heap.size ≤ w6.heap.size := (HB6.out).size
  have hz67 : w6.heap.size < w7.heap.size := Nat.lt_of_lt_of_le (KU6.out).lt b7.size
  have K3 := Lib.hid k3; clear k3
  have K4 := Lib.hid k4; clear k4
  have K7 := Lib.hid kU7; clear kU7
  have K67 := Lib.hid k67; clear k67
  have SU7 := Lib.hid sU7; clear sU7 hs7
  have BU7 := Lib.hid bU7; clear bU7 bU67
  have HZ7 := Lib.hid hz7; clear hz7
  have HZ6 := Lib.hid hz6; clear hz6
  have HZ67 := Lib.hid hz67; clear hz67
  have HU7 := Lib.hid hU7; clear hU7 b7 b7' ebf
  rw [HU7.out] at c0
  go_wp2
  rw [← HU7.out]
  have ex0 : (fun U => Chg [w.heap.size + 1 + 1] U7 U) U7.drew := (Chg.refl _ _).drew
  haveI : Nonempty (SqC.Come fun U => Chg [w.heap.size + 1 + 1] U7 U) := ⟨⟨_, ex0⟩⟩
  refine SqC.wp_region_sqc 4 [2, 3] (fun U => Chg [w.heap.size + 1 + 1] U7 U) (by kernel_rfl) (by kernel_rfl) (by kernel_rfl) ex0 ?_
  obtain ⟨wd, hwd⟩ : ∃ wd : World, wd = U7.drew := ⟨_, rfl⟩
  rw [← hwd] at ex0 ⊢
  have hl6 : ∀ U, Chg [w.heap.size + 1 + 1] U7 U → (loadVar 52 ⟨w6.heap.size, 0, none⟩).run Try.prog U = .ok (.agg #[.bool false, .slice s6 Q.length c6]) U := fun U hU =>
    run_load_agg (P := Try.prog) (ty := 52) ((K67.out).chg hU (by have := HZ6.out; have := Z4.out; simp; omega)).cells0 aggInt infoI
  have hl7 : ∀ U, Chg [w.heap.size + 1 + 1] U7 U → (loadVar 52 ⟨w7.heap.size, 0, none⟩).run Try.prog U = .ok (.agg #[.bool false, .slice s7 r.length c7]) U := fun U hU =>
    run_load_agg (P := Try.prog) (ty := 52) ((K7.out).chg hU (by have := HZ7.out; have := Z4.out; simp; omega)).cells0 aggInt infoI
  refine SqC.value (.agg #[.bool false, .slice s6 Q.length c6]) rfl rfl (fun U hU => load_agg_exec rfl rfl (hl6 U hU)) ?_
  simp only [Act.put, List.setIfInBounds_toArray, List.set_cons_zero, List.set_cons_succ]
  refine SqC.value (.agg #[.bool false, .slice s7 r.length c7]) rfl rfl (fun U hU => load_agg_exec rfl rfl (hl7 U hU)) ?_
  simp only [Act.put, List.setIfInBounds_toArray, List.set_cons_zero, List.set_cons_succ]
  have k3 : Blk wd (w.heap.size + 1 + 1) [.bool false, .slice none 0 0] 52 := by rw [hwd]; exact (K3.out).drew
  have k4 : Blk wd (w.heap.size + 1 + 1 + 1) [.bool false, .slice none 0 0] 52 := by rw [hwd]; exact (K4.out).drew
  have sd : Sl wd 1 (.slice s7 r.length c7) r.length (nts r) := by rw [hwd]; exact SU7.out
  have bd : Below w.heap.size w wd := by rw [hwd]; exact ((H04.out).trans ((BU7.out).mono (H04.out).size)).drew
  have ED := Lib.hid ex0; clear ex0 hl6 hl7
  have SD := Lib.hid sd; clear sd
  have BD := Lib.hid bd; clear bd
  clear hwd
  refine SqC.effectW rfl rfl ?_
  refine wpList_store_blk (ty := 52) (n := 2) (vs := [.bool false, .slice s6 Q.length c6]) k3 rfl rfl rfl rfl rfl infoI rfl (by simp) (by intro u hu; simp at hu; rcases hu with hu | hu <;> (subst hu; rfl)) ?_
  intro wz z1 z2
  have sdz := sl_keep SD.out (by intro k z h; cases h) k3 z2
  have SDZ := Lib.hid sdz; clear sdz
  have ez : Chg [w.heap.size + 1 + 1] U7 wz := (ED.out).trans (Chg.of_oth z2 (by simp))
  have k4z := z2.blk (by omega) k4
  have EZ := Lib.hid ez; clear ez
  have Z1 := Lib.hid z1; clear z1
  have Z2 := Lib.hid z2; clear z2
  go_wp2
  refine SqC.here rfl (fun _ => EZ.out) ?_
  refine SqC.effectW rfl rfl ?_
  refine wpList_store_blk (ty := 52) (n := 2) (vs := [.bool false, .slice s7 r.length c7]) k4z rfl rfl rfl rfl rfl infoI rfl (by simp) (by intro u hu; simp at hu; rcases hu with hu | hu <;> (subst hu; rfl)) ?_
  intro wy y1 y2
  have z1y := y2.blk (show w.heap.size + 1 + 1 ≠ w.heap.size + 1 + 1 + 1 by omega) Z1.out
  have sdy := sl_keep SDZ.out (by intro k z h; cases h) k4z y2
  have SDY := Lib.hid sdy; clear sdy
  have by' : Below w.heap.size w wy := y2.below (Z2.out.below BD.out (by omega)) (by omega)
  have BY := Lib.hid by'; clear by'
  have Y1 := Lib.hid y1; clear y1
  have Y2 := Lib.hid y2; clear y2
  have Z1Y := Lib.hid z1y; clear z1y
  go_wp2
  refine SqC.here rfl (by intro h; first | exact h.elim | exact absurd rfl h) (SqC.nil ?_)
  go_wp2
  refine bodyPost_ret (results_cells2 rfl rfl rfl (run_load_agg (P := Try.prog) (ty := 52) (Z1Y.out).cells0 aggInt infoI) (run_load_agg (P := Try.prog) (ty := 52) (Y1.out).cells0 aggInt infoI)) rfl ?_
  exact ⟨_, r, s7, c7, rfl, ⟨s6, Q.length, c6, rfl⟩, SDY.out, HRC.out, HRV.out, BY.out⟩
end Go.Proofs.Ytnkinjilnccmfaa
/- order: the reference's Gcd: it ends. -/
namespace Go.Own
open Go.RowKit Go.Big
theorem oth_set (w : World) (g i : Nat) (v : Value) : Oth g w (w.setCell ⟨g, i, none⟩ v) :=
  ⟨by first | rfl | simp, by first | rfl | simp, by first | rfl | simp, by first | simp | rfl, fun k hk => heap_setCell_other w ⟨g, i, none⟩ k v hk⟩
theorem Oth.trans {g : Nat} {a b c : World} (h : Oth g a b) (k : Oth g b c) : Oth g a c :=
  ⟨k.os.trans h.os, k.tape.trans h.tape, k.output.trans h.output, k.size.trans h.size, fun i hi => (k.block i hi).trans (h.block i hi)⟩
/-- the number that an integer's block holds -/
def rdN (g : Nat) (w : World) : Nat :=
  match w.cell? ⟨g, 1, none⟩ with
  | some (.slice (some a) n _) => val ((List.range n).map fun i => match w.cell? ⟨a.block, a.off + i, none⟩ with | some (.int _ z) => z.toNat | _ => 0)
  | _ => 0
theorem rdN_eq {w : World} {g : Nat} {x : Bool} {s : Option Addr} {cap : Nat} {l : List Nat} {t : TypeId} (hb : Blk w g [.bool x, .slice s l.length cap] t) (hs : Sl w 1 (.slice s l.length cap) l.length (nts l)) : rdN g w = val l := by
  have c : w.cell? ⟨g, 1, none⟩ = some (.slice s l.length cap) := hb.cell rfl
  unfold rdN
  rw [c]
  obtain ⟨_, ⟨h2, h3⟩ | ⟨b, off, cap', h3, _, _, h6, _⟩⟩ := hs
  · injection h2 with h2
    subst h2
    rw [List.length_eq_zero_iff.1 h3]; rfl
  · injection h3 with h3 _ _
    subst h3
    dsimp only
    congr 1
    apply List.ext_getElem
    · simp
    · intro i h1 h2
      have := h6 i _ (nts_at h2)
      simp [this]
end Go.Own
namespace Go.Proofs.Ytnkinjilnccmfaa
open Go.RowKit Go.Own Go.BigFrame Go.Big
/-- an integer's block -/
structure Ibk (w : World) (g : Nat) (l : List Nat) : Prop where
  ex : ∃ s cap, Blk w g [.bool false, .slice s l.length cap] 52 ∧ Sl w 1 (.slice s l.length cap) l.length (nts l)
  can : Big.Can l
set_option maxRecDepth 100000 in
set_option maxHeartbeats 3200000 in
theorem gcd_any (na nb : Bool) (a b : List Nat) (s t : Option Addr) (ca cb : Nat) (w : World) (ha : Big.Can a) (hb : Big.Can b) (hl : Sz w (.slice s a.length ca) a.length (nts a)) (hm : Sz w (.slice t b.length cb) b.length (nts b)) (hla : a.length + 8 ≤ LL) (hlb : b.length + 8 ≤ LL) (hca : a.length ≤ ca) (hcb : b.length ≤ cb) :
    Calls Try.prog 60 #[.agg #[.bool na, .slice s a.length ca], .agg #[.bool nb, .slice t b.length cb]] w fun e w' => ∃ r sr cr, e = .returned (.agg #[.bool false, .slice sr r.length cr]) ∧ Sl w' 1 (.slice sr r.length cr) r.length (nts r) ∧ Below w.heap.size w w' := by
  obtain ⟨W1, hW1⟩ : ∃ W1, W1 = w.alloc (.cells #[.bool na, .slice s a.length ca] 52) := ⟨_, rfl⟩
  obtain ⟨W2, hW2⟩ : ∃ W2, W2 = W1.alloc (.cells #[.bool nb, .slice t b.length cb] 52) := ⟨_, rfl⟩
  obtain ⟨W3, hW3⟩ : ∃ W3, W3 = W2.alloc (.cells #[.bool false, .slice none 0 0] 52) := ⟨_, rfl⟩
  have z1 : W1.heap.size = w.heap.size + 1 := by rw [hW1]; exact alloc_size _ _
  have z2 : W2.heap.size = w.heap.size + 1 + 1 := by rw [hW2, alloc_size, z1]
  have z3 : W3.heap.size = w.heap.size + 1 + 1 + 1 := by rw [hW3, alloc_size, z2]
  have b1 : Below w.heap.size w W1 := by rw [hW1]; exact alloc_below _ _
  have b2 : Below W1.heap.size W1 W2 := by rw [hW2]; exact alloc_below _ _
  have b3 : Below W2.heap.size W2 W3 := by rw [hW3]; exact alloc_below _ _
  have B1 : Blk W3 w.heap.size [.bool na, .slice s a.length ca] 52 := ((by rw [hW1]; exact Blk.new w #[.bool na, .slice s a.length ca] 52 : Blk W1 w.heap.size [.bool na, .slice s a.length ca] 52).below b2 (by omega)).below b3 (by omega)
  have B2 : Blk W3 (w.heap.size + 1) [.bool nb, .slice t b.length cb] 52 := by
    have : Blk W2 W1.heap.size [.bool nb, .slice t b.length cb] 52 := by rw [hW2]; exact Blk.new W1 #[.bool nb, .slice t b.length cb] 52
    rw [← z1]; exact this.below b3 (by omega)
  have B3 : Blk W3 (w.heap.size + 1 + 1) [.bool false, .slice none 0 0] 52 := by
    rw [hW3, ← z2]; exact Blk.new W2 #[.bool false, .slice none 0 0] 52
  have b03 : Below w.heap.size w W3 := (b1.trans (b2.mono b1.size)).trans (b3.mono (Nat.le_trans b1.size b2.size))
  have c1 : W3.cell? ⟨w.heap.size, 1, none⟩ = some (.slice s a.length ca) := B1.cell rfl
  have hna := normal_any false a s ca W3 (hl.below b03) (by omega) hca
  rw [ha.2] at hna
  have hnb := fun U (hU : Below W3.heap.size W3 U) => normal_any false b t cb U (hm.below (b03.trans (hU.mono b03.size))) (by omega) hcb
  rw [hb.2] at hnb
  have HNA := Lib.hid hna; clear hna
  have HNB := Lib.hid hnb; clear hnb
  have HAC := Lib.hid ha; clear ha
  have HBC := Lib.hid hb; clear hb
  have HLA := Lib.hid hla; clear hla
  have HLB := Lib.hid hlb; clear hlb
  clear hl hm hca hcb
  have HB1 := Lib.hid B1; clear B1
  have HB2 := Lib.hid B2; clear B2
  have HB3 := Lib.hid B3; clear B3
  have H03 := Lib.hid b03; clear b03 b1 b2 b3
  have Z3 := Lib.hid z3; clear z1 z2 z3
  have HW1 := Lib.hid hW1; clear hW1
  have HW2 := Lib.hid hW2; clear hW2
  have HW3 := Lib.hid hW3; clear hW3
  go_enter Try.func60, Try.ntmps60
  go_step
  go_wp2_with (fail)
  rw [← HW1.out, ← HW2.out, ← HW3.out]
  go_wp2_with (fail)
  refine HNA.out.mono ?_
  rintro e w5 ⟨s5, c5, rfl, hs5, _, _, b5⟩
  have ebf : (false && !a.isEmpty) = false := rfl
  rw [ebf]
  obtain ⟨U5, hU5⟩ : ∃ U5, U5 = w5.alloc (.cells #[.bool false, .slice s5 a.length c5] 52) := ⟨_, rfl⟩
  have bU5 : Below W3.heap.size W3 U5 := by rw [hU5]; exact b5.trans ((alloc_below _ _).mono b5.size)
  have kU5 : Blk U5 w5.heap.size [.bool false, .slice s5 a.length c5] 52 := by rw [hU5]; exact Blk.new w5 #[.bool false, .slice s5 a.length c5] 52
  have sU5 : Sl U5 1 (.slice s5 a.length c5) a.length (nts a) := by rw [hU5]; exact hs5.alloc _
  have c2 : U5.cell? ⟨w.heap.size + 1, 1, none⟩ = some (.slice t b.length cb) := ((HB2.out).below bU5 (HB2.out).lt).cell rfl
  have hz5 : W3.heap.size ≤ w5.heap.size := b5.size
  have hnb5 := HNB.out U5 bU5
  have HNB5 := Lib.hid hnb5; clear hnb5
  have BU5 := Lib.hid bU5; clear bU5 b5
  have KU5 := Lib.hid kU5; clear kU5
  have SU5 := Lib.hid sU5; clear sU5 hs5
  have HZ5 := Lib.hid hz5; clear hz5
  have HU5 := Lib.hid hU5; clear hU5 c1 ebf
  rw [HU5.out] at c2
  go_wp2_with (fail)
  rw [← HU5.out]
  refine HNB5.out.mono ?_
  rintro e w6 ⟨s6, c6, rfl, hs6, _, _, b6⟩
  have ebf : (false && !b.isEmpty) = false := rfl
  rw [ebf]
  obtain ⟨U6, hU6⟩ : ∃ U6, U6 = w6.alloc (.cells #[.bool false, .slice s6 b.length c6] 52) := ⟨_, rfl⟩
  have bU6 : Below U5.heap.size U5 U6 := by rw [hU6]; exact b6.trans ((alloc_below _ _).mono b6.size)
  have kU6 : Blk U6 w6.heap.size [.bool false, .slice s6 b.length c6] 52 := by rw [hU6]; exact Blk.new w6 #[.bool false, .slice s6 b.length c6] 52
  have sU6 : Sl U6 1 (.slice s6 b.length c6) b.length (nts b) := by rw [hU6]; exact hs6.alloc _
  have hz6 : w5.heap.size < w6.heap.size := Nat.lt_of_lt_of_le (KU5.out).lt b6.size
  obtain ⟨gx, hgx⟩ : ∃ gx, gx = w5.heap.size := ⟨_, rfl⟩
  obtain ⟨gy, hgy⟩ : ∃ gy, gy = w6.heap.size := ⟨_, rfl⟩
  have ix : Ibk U6 gx a := ⟨⟨s5, c5, by rw [hgx]; exact (KU5.out).below bU6 (KU5.out).lt, (SU5.out).below bU6⟩, HAC.out⟩
  have iy : Ibk U6 gy b := ⟨⟨s6, c6, by rw [hgy]; exact kU6, sU6⟩, HBC.out⟩
  have k3 : Blk U6 (w.heap.size + 1 + 1) [.bool false, .slice none 0 0] 52 := ((HB3.out).below (BU5.out) (HB3.out).lt).below bU6 (Nat.lt_of_lt_of_le (HB3.out).lt (BU5.out).size)
  have hbU6 : Below w.heap.size w U6 := (H03.out).trans (((BU5.out).trans (bU6.mono (BU5.out).size)).mono (H03.out).size)
  have hgo : w.heap.size + 1 + 1 < gx ∧ gx < gy ∧ gy < U6.heap.size := ⟨by have := HZ5.out; have := Z3.out; omega, by omega, by rw [hgy]; exact kU6.lt⟩
  have IX := Lib.hid ix; clear ix
  have IY := Lib.hid iy; clear iy
  have K3 := Lib.hid k3; clear k3
  have HBU6 := Lib.hid hbU6; clear hbU6
  have HGO := Lib.hid hgo; clear hgo
  have HGX := Lib.hid hgx; clear hgx
  have HGY := Lib.hid hgy; clear hgy hz6
  have HU6 := Lib.hid hU6; clear hU6 b6 bU6 kU6 sU6 hs6 c2 ebf
  go_wp2_with (fail)
  rw [← HU6.out, ← HGX.out, ← HGY.out]
  go_loopw [18] (fun _ wr => ∃ X Y, Ibk wr gx X ∧ Ibk wr gy Y ∧ Blk wr (w.heap.size + 1 + 1) [.bool false, .slice none 0 0] 52 ∧ X.length + 8 ≤ LL ∧ Y.length + 8 ≤ LL ∧ Below w.heap.size w wr ∧ gy < wr.heap.size) (fun _ wr => rdN gy wr)
  case atStart => exact ⟨a, b, IX.out, IY.out, K3.out, HLA.out, HLB.out, HBU6.out, (HGO.out).2.2⟩
  case round =>
    obtain ⟨X, Y, ⟨⟨sx, cx, hX, hXs⟩, hXc⟩, ⟨⟨sy, cy, hY, hYs⟩, hYc⟩, hR, hXl, hYl, hbr, hgz⟩ := hrel
    have hrd := rdN_eq hY hYs
    have k3 : wr.cell? ⟨gx, 0, none⟩ = some (.bool false) := hX.cell rfl
    have k4 : wr.cell? ⟨gy, 0, none⟩ = some (.bool false) := hY.cell rfl
    have k1 : wr.cell? ⟨gx, 1, none⟩ = some (.slice sx X.length cx) := hX.cell rfl
    have k2 : wr.cell? ⟨gy, 1, none⟩ = some (.slice sy Y.length cy) := hY.cell rfl
    have hxcap := sl_cap hXs
    have hycap := sl_cap hYs
    have XC := Lib.hid hXc; clear hXc
    have YC := Lib.hid hYc; clear hYc
    have XS := Lib.hid hXs; clear hXs
    have YS := Lib.hid hYs; clear hYs
    have XB := Lib.hid hX; clear hX
    have YB := Lib.hid hY; clear hY
    have RB := Lib.hid hR; clear hR
    have HBR := Lib.hid hbr; clear hbr
    have HRD := Lib.hid hrd; clear hrd
    have HXL := Lib.hid hXl; clear hXl
    have HYL := Lib.hid hYl; clear hYl
    have HXCP := Lib.hid hxcap; clear hxcap
    have HYCP := Lib.hid hycap; clear hycap
    have HGZ := Lib.hid hgz; clear hgz
    by_cases hy0 : Y.length = 0
    · have h0 : ((0 : Int) < Y.length) = False := eq_false (by omega)
      have hRne : w.heap.size + 1 + 1 ≠ gx := by have := HGO.out; omega
      have r0 : wr.cell? ⟨w.heap.size + 1 + 1, 0, none⟩ = some (.bool false) := (RB.out).cell rfl
      have r1 : wr.cell? ⟨w.heap.size + 1 + 1, 1, none⟩ = some (.slice none 0 0) := (RB.out).cell rfl
      have f0 : wr.frozen? ⟨w.heap.size + 1 + 1, 0, none⟩ = false := (RB.out).frozen 0
      have f1 : wr.frozen? ⟨w.heap.size + 1 + 1, 1, none⟩ = false := (RB.out).frozen 1
      go_wp2
      obtain ⟨Z, hZ⟩ : ∃ Z, Z = (wr.setCell ⟨w.heap.size + 1 + 1, 0, none⟩ (.bool false)).setCell ⟨w.heap.size + 1 + 1, 1, none⟩ (.slice sx X.length cx) := ⟨_, rfl⟩
      rw [← hZ]
      have z1 : Blk Z (w.heap.size + 1 + 1) [.bool false, .slice sx X.length cx] 52 := by rw [hZ]; exact ((RB.out).set 0 _).set 1 _
      have z2 : Oth (w.heap.size + 1 + 1) wr Z := by rw [hZ]; exact (oth_set _ _ _ _).trans (oth_set _ _ _ _)
      have hs := sl_keep XS.out (by intro k z h; cases h) RB.out z2
      have hbz : Below w.heap.size w Z := z2.below HBR.out (by omega)
      refine bodyPost_ret (results_blk rfl z1 rfl rfl (by kernel_rfl) infoI) rfl ?_
      exact ⟨X, sx, cx, rfl, hs, hbz⟩
    · have h0 : (0 : Int) < Y.length := by omega
      by_cases hsh : X.length ≤ 2 ∧ Y.length ≤ 2
      · have hx2 : (X.length : Int) ≤ 2 := by omega
        have hy2 : (Y.length : Int) ≤ 2 := by omega
        have ta := tiny_any X sx cx wr (XC.out).1 (Sz.of XS.out)
        have tb := tiny_any Y sy cy wr (YC.out).1 (Sz.of YS.out)
        rw [dg_two hsh.1] at ta
        rw [dg_two hsh.2] at tb
        have va := val_two (XC.out).1 hsh.1
        have vb := val_two (YC.out).1 hsh.2
        obtain ⟨x, hx⟩ : ∃ x, x = val X := ⟨_, rfl⟩
        obtain ⟨y, hy⟩ : ∃ y, y = val Y := ⟨_, rfl⟩
        rw [← hx] at ta va
        rw [← hy] at tb vb
        have TA := Lib.hid ta; clear ta
        have TB := Lib.hid tb; clear tb
        clear hx hy hsh
        go_wp2_with (fail)
        refine TA.out.mono ?_
        rintro e w8 ⟨rfl, h⟩
        have h2 := h.symm; clear h; subst h2
        go_wp2_with (fail)
        refine TB.out.mono ?_
        rintro e w8 ⟨rfl, h⟩
        have h2 := h.symm; clear h; subst h2
        go_wp2
        obtain ⟨wo, rfl⟩ : ∃ wo : World, wo = wr := ⟨_, rfl⟩
        go_loopw [7, 8] (fun v7 v8 wi => ∃ m n : Nat, v7 = .int .i64 m ∧ v8 = .int .i64 n ∧ m < 1000000000000000000 ∧ n < 1000000000000000000 ∧ wi = wo) (fun _ v8 _ => (vInt v8).toNat)
        case atStart => exact ⟨x, y, rfl, rfl, va, vb, rfl⟩
        case round =>
          obtain ⟨m, n, rfl, rfl, hm9, hn9, rfl⟩ := hrel
          by_cases hn0 : 0 < n
          · have hn0' : (0 : Int) < n := by omega
            have hn1 : ((n : Int) = 0) = False := eq_false (by omega)
            have hn2 : ((n : Int) == 0) = false := beq_eq_false_iff_ne.2 (by omega)
            have hm0 : (0 : Int) ≤ m := by omega
            obtain ⟨r, hr⟩ : ∃ r, r = m % n := ⟨_, rfl⟩
            have er1 : (m : Int) % (n : Int) = (r : Int) := by rw [hr]; exact (Int.natCast_emod m n).symm
            have er2 : (m : Int).tmod (n : Int) = (r : Int) := by rw [hr, Int.ofNat_tmod]
            have hrn : r < n := by rw [hr]; exact Nat.mod_lt _ hn0
            have hwr : wrap64 (r : Int) = (r : Int) := Go.IntWalk.wrap64_in _ (by omega)
            have hr9 : r < 1000000000000000000 := Nat.lt_trans hrn hn9
            have HR9 := Lib.hid hr9; clear hr9
            have HRN := Lib.hid hrn; clear hrn
            have HR := Lib.hid hr; clear hr
            go_wp2
            go_roundw
            case rel => exact ⟨n, r, rfl, rfl, hn9, HR9.out, trivial⟩
            case measure => simp [vInt]; exact HRN.out
          · obtain rfl : n = 0 := by omega
            have h00 : ((0 : Int) < ((0 : Nat) : Int)) = False := eq_false (by omega)
            have ho := of_any m (by omega) wr
            obtain ⟨D, hD⟩ : ∃ D, D = dgs m := ⟨_, rfl⟩
            rw [← hD] at ho
            have HO := Lib.hid ho; clear ho hD
            go_wp2_with (fail)
            refine HO.out.mono ?_
            rintro e w9 ⟨s9, c9, rfl, hs9, b9⟩
            have hR9 := (RB.out).below b9 (RB.out).lt
            dsimp only
            rename_i hKK
            refine hKK _ _ ?_
            refine wpList_store_blk (ty := 52) (n := 2) (vs := [.bool false, .slice s9 D.length c9]) hR9 rfl rfl rfl rfl rfl infoI rfl (by simp) (by intro u hu; simp at hu; rcases hu with hu | hu <;> (subst hu; rfl)) ?_
            intro wz z1 z2
            have hs := sl_keep hs9 (by intro k z h; cases h) hR9 z2
            have hbz : Below w.heap.size w wz := z2.below ((HBR.out).trans (b9.mono (HBR.out).size)) (by omega)
            go_wp2
            refine bodyPost_ret (results_blk rfl z1 rfl rfl (by kernel_rfl) infoI) rfl ?_
            exact ⟨D, s9, c9, rfl, hs, hbz⟩
      · have hYne : Y ≠ [] := fun h => by rw [h] at hy0; exact hy0 rfl
        have hdv := div_any X Y sx sy cx cy wr (XC.out).1 YC.out hYne (Sz.of XS.out) (Sz.of YS.out) HXL.out HYL.out HYCP.out
        have HDV := Lib.hid hdv; clear hdv hYne
        have hcase : (((X.length : Int) ≤ 2) = False) ∨ (((X.length : Int) ≤ 2) ∧ ((Y.length : Int) ≤ 2) = False) := by
          by_cases h : X.length ≤ 2
          · exact .inr ⟨by omega, eq_false fun h2 => hsh ⟨h, by omega⟩⟩
          · exact .inl (eq_false (by omega))
        clear hsh
        rcases hcase with hc | ⟨hc, hc2⟩
        all_goals (
          go_wp2_with (fail)
          refine HDV.out.mono ?_
          rintro e w8 ⟨v, r, sr, cr, rfl, ⟨sq, nq, cq, rfl⟩, hrs, hrc, hrv, b8⟩
          clear k1 k2 k3 k4
          obtain ⟨U, hU⟩ : ∃ U, U = (w8.alloc (.cells #[.bool false, .slice sq nq cq] 52)).alloc (.cells #[.bool false, .slice sr r.length cr] 52) := ⟨_, rfl⟩
          have bU8 : Below w8.heap.size w8 U := by rw [hU]; exact (alloc_below _ _).trans ((alloc_below _ _).mono (alloc_below _ _).size)
          have bU : Below wr.heap.size wr U := b8.trans (bU8.mono b8.size)
          have xU := (XB.out).below bU (XB.out).lt
          have yU := (YB.out).below bU (YB.out).lt
          have rU := (RB.out).below bU (RB.out).lt
          have nU : Blk U (w8.heap.size + 1) [.bool false, .slice sr r.length cr] 52 := by
            rw [hU]; exact Blk.new_at _ #[.bool false, .slice sr r.length cr] 52 (alloc_size _ _).symm
          have ysU := (YS.out).below bU
          have rsU := hrs.below bU8
          have hg := HGO.out
          have hwl : wr.heap.size ≤ w8.heap.size := b8.size
          have hgl := HGZ.out
          obtain ⟨V, hV⟩ : ∃ V, V = (U.setCell ⟨gx, 0, none⟩ (.bool false)).setCell ⟨gx, 1, none⟩ (.slice sy Y.length cy) := ⟨_, rfl⟩
          have oV : Oth gx U V := by rw [hV]; exact (oth_set _ _ _ _).trans (oth_set _ _ _ _)
          have xV : Blk V gx [.bool false, .slice sy Y.length cy] 52 := by rw [hV]; exact (xU.set 0 _).set 1 _
          have yV := oV.blk (show gy ≠ gx by omega) yU
          have rV := oV.blk (show w.heap.size + 1 + 1 ≠ gx by omega) rU
          have nV := oV.blk (show w8.heap.size + 1 ≠ gx by omega) nU
          have ysV := sl_keep ysU (by intro k z h; cases h) xU oV
          have rsV := sl_keep rsU (by intro k z h; cases h) xU oV
          obtain ⟨Z, hZ⟩ : ∃ Z, Z = (V.setCell ⟨gy, 0, none⟩ (.bool false)).setCell ⟨gy, 1, none⟩ (.slice sr r.length cr) := ⟨_, rfl⟩
          have oZ : Oth gy V Z := by rw [hZ]; exact (oth_set _ _ _ _).trans (oth_set _ _ _ _)
          have xZ := oZ.blk (show gx ≠ gy by omega) xV
          have yZ : Blk Z gy [.bool false, .slice sr r.length cr] 52 := by rw [hZ]; exact (yV.set 0 _).set 1 _
          have rZ := oZ.blk (show w.heap.size + 1 + 1 ≠ gy by omega) rV
          have ysZ := sl_keep ysV (by intro k z h; cases h) yV oZ
          have rsZ := sl_keep rsV (by intro k z h; cases h) yV oZ
          have bZ : Below w.heap.size w Z := oZ.below (oV.below ((HBR.out).trans (bU.mono (HBR.out).size)) (by omega)) (by omega)
          have zl : gy < Z.heap.size := yZ.lt
          have hrl : r.length ≤ Y.length := Nat.le_of_not_lt fun h => by
            have := len_lt (YC.out).1 hrc h
            omega
          have iX : Ibk Z gx Y := ⟨⟨sy, cy, xZ, ysZ⟩, YC.out⟩
          have iY : Ibk Z gy r := ⟨⟨sr, cr, yZ, rsZ⟩, hrc⟩
          have hms : rdN gy Z < rdN gy wr := by rw [rdN_eq yZ rsZ, HRD.out]; exact hrv
          have hrl8 : r.length + 8 ≤ LL := by have := HYL.out; omega
          have hfin : ∃ X' Y', Ibk Z gx X' ∧ Ibk Z gy Y' ∧ Blk Z (w.heap.size + 1 + 1) [.bool false, .slice none 0 0] 52 ∧ X'.length + 8 ≤ LL ∧ Y'.length + 8 ≤ LL ∧ Below w.heap.size w Z ∧ gy < Z.heap.size := ⟨Y, r, iX, iY, rZ, HYL.out, hrl8, bZ, zl⟩
          have x0 := xU.cell (i := 0) rfl
          have x1 := xU.cell (i := 1) rfl
          have xf0 := xU.frozen 0
          have xf1 := xU.frozen 1
          have y0 := yU.cell (i := 0) rfl
          have y1 := yU.cell (i := 1) rfl
          have n0 := nV.cell (i := 0) rfl
          have n1 := nV.cell (i := 1) rfl
          have v0 := yV.cell (i := 0) rfl
          have v1 := yV.cell (i := 1) rfl
          have vf0 := yV.frozen 0
          have vf1 := yV.frozen 1
          rw [hV] at n0 n1 v0 v1 vf0 vf1
          rw [hU] at x0 x1 xf0 xf1 y0 y1 n0 n1 v0 v1 vf0 vf1
          have HFIN := Lib.hid hfin; clear hfin
          have HMS := Lib.hid hms; clear hms
          have HZ := Lib.hid hZ
          have HV := Lib.hid hV
          have HU := Lib.hid hU
          clear hZ hV hU bU8 bU xU yU rU nU ysU rsU hg hwl hgl oV xV yV rV nV ysV rsV oZ xZ yZ rZ ysZ rsZ bZ zl hrl iX iY hrl8 hrs hrc hrv b8
          go_wp2
          rw [← HU.out, ← HV.out, ← HZ.out]
          go_roundw
          case rel => exact HFIN.out
          case measure => exact HMS.out)
end Go.Proofs.Ytnkinjilnccmfaa
/- order: the reference's Valid of rational numbers; a law's plain. -/
namespace Go.Big
theorem norm_last : ∀ {l : List Nat}, l ≠ [] → l.getLastD 0 ≠ 0 → norm l = l
  | [d], _, h => by
    unfold norm
    rw [if_neg (by rintro ⟨_, h2⟩; exact h (by simpa using h2))]; rfl
  | d :: e :: r, _, h => by
    have ih := norm_last (l := e :: r) (by simp) (by simpa using h)
    rw [show norm (d :: e :: r) = if norm (e :: r) = [] ∧ d = 0 then [] else d :: norm (e :: r) from rfl, ih, if_neg (by simp)]
end Go.Big
namespace Go.Order
open Go.RowKit Go.Own Go.Big Go.Proofs.Ytnkinjilnccmfaa
/-- how long digits that come in are -/
abbrev AL : Nat := 17592186043904
/-- an integer as it lies in memory -/
structure Num where
  n : Bool
  d : List Int
  s : Option Addr
  c : Nat
def Num.sl (x : Num) : Value := .slice x.s x.d.length x.c
def Num.cells (x : Num) : List Value := [.bool x.n, x.sl]
def Num.v (x : Num) : Value := .agg #[.bool x.n, x.sl]
structure Num.At (w : World) (x : Num) : Prop where
  rd : Sz w x.sl x.d.length (intsI x.d)
  len : x.d.length ≤ AL
theorem Num.At.below {w w' : World} {x : Num} (h : x.At w) (hb : Below w.heap.size w w') : x.At w' := ⟨h.rd.below hb, h.len⟩
theorem Num.At.cap {w : World} {x : Num} (h : x.At w) : x.d.length ≤ x.c := by
  rcases Nat.eq_zero_or_pos x.d.length with h0 | h0
  · omega
  · exact sl_cap (h.rd h0)
theorem can_of_valid {n : Bool} {l : List Int} (h : validB n l = true) : ∃ L : List Nat, l = L.map (fun d : Nat => (d : Int)) ∧ Big.Can L := by
  unfold validB at h
  rw [Bool.and_eq_true, List.all_eq_true] at h
  obtain ⟨h1, h2⟩ := h
  have e : l = (l.map Int.toNat).map (fun d : Nat => (d : Int)) := by
    rw [List.map_map]
    conv => lhs; rw [← List.map_id l]
    refine List.map_congr_left fun d hd => ?_
    have := h1 d hd
    rw [Bool.and_eq_true, decide_eq_true_eq, decide_eq_true_eq] at this
    simp; omega
  refine ⟨l.map Int.toNat, e, fun d hd => ?_, ?_⟩
  · obtain ⟨z, hz, rfl⟩ := List.mem_map.1 hd
    have := h1 z hz
    rw [Bool.and_eq_true, decide_eq_true_eq, decide_eq_true_eq] at this
    show z.toNat < 1000000000
    omega
  · cases hl : l with
    | nil => rfl
    | cons a r =>
      rw [← hl]
      rw [if_neg (by rw [hl]; simp)] at h2
      refine norm_last (by rw [hl]; simp) fun h3 => ?_
      have h4 : l.getLastD 0 = 0 := by
        rw [e, hl]
        rw [hl] at h3
        rw [List.getLastD_eq_getLast?] at h3 ⊢
        rw [List.getLast?_map]
        cases hg : ((a :: r).map Int.toNat).getLast? with
        | none => rfl
        | some z =>
          rw [hg] at h3
          simp only [Option.getD_some] at h3
          rw [h3]; rfl
      rw [h4] at h2
      exact absurd h2 (by simp)
theorem intsI_nts (L : List Nat) : intsI (L.map fun d : Nat => (d : Int)) = nts L := by unfold intsI nts; rw [List.map_map]; rfl
end Go.Order
namespace Go.Proofs.Ytnkinjilnccmfaa
open Go.RowKit Go.Own Go.BigFrame Go.Big Go.Order
set_option maxRecDepth 100000 in
theorem one_any (n : Bool) (l : List Int) (s : Option Addr) (cap : Nat) (w : World) (hl : Sz w (.slice s l.length cap) l.length (intsI l)) :
    Calls Try.prog 59 #[.agg #[.bool n, .slice s l.length cap]] w fun e w' => e = .returned (.bool (!n && decide (l = [1]))) ∧ Below w.heap.size w w' := by
  obtain ⟨W1, hW1⟩ : ∃ W1, W1 = w.alloc (.cells #[.bool n, .slice s l.length cap] 52) := ⟨_, rfl⟩
  have hB : Blk W1 w.heap.size [.bool n, .slice s l.length cap] 52 := by rw [hW1]; exact Blk.new w #[.bool n, .slice s l.length cap] 52
  have b1 : Below w.heap.size w W1 := by rw [hW1]; exact alloc_below _ _
  have q0 : W1.cell? ⟨w.heap.size, 0, none⟩ = some (.bool n) := hB.cell rfl
  have q1 : W1.cell? ⟨w.heap.size, 1, none⟩ = some (.slice s l.length cap) := hB.cell rfl
  have hl1 := hl.below b1
  have HB1 := Lib.hid b1; clear b1
  have HL := Lib.hid hl1; clear hl1 hl
  cases n with
  | true =>
    rw [hW1] at q0 q1
    go_enter Try.func59, Try.ntmps59
    go_wp2
    go_ret
    exact ⟨rfl, by rw [← hW1]; exact HB1.out⟩
  | false =>
    by_cases h1 : l.length = 1
    · obtain ⟨x, rfl⟩ := List.length_eq_one_iff.1 h1
      obtain ⟨g, o, rfl, _, _, hC, _⟩ := sl_at (HL.out (by simp)) (by simp)
      have cx : W1.cell? ⟨g, o + 0, none⟩ = some (.int .i64 x) := hC 0 _ rfl
      rw [Nat.add_zero] at cx
      have q1' : W1.cell? ⟨w.heap.size, 1, none⟩ = some (.slice (some ⟨g, o, none⟩) 1 cap) := q1
      clear q1
      have hW1' : W1 = w.alloc (.cells #[.bool false, .slice (some ⟨g, o, none⟩) 1 cap] 52) := hW1
      clear hW1
      rw [hW1'] at q0 q1' cx
      have HW1 := Lib.hid hW1'; clear hW1' hC hB
      show Calls Try.prog 59 #[.agg #[.bool false, .slice (some ⟨g, o, none⟩) 1 cap]] w _
      go_enter Try.func59, Try.ntmps59
      go_wp2
      go_ret
      refine ⟨?_, by rw [← HW1.out]; exact HB1.out⟩
      by_cases hx : x = 1
      · subst hx; rfl
      · simp [hx]
    · have h2 : ((l.length : Int) = 1) = False := eq_false (by omega)
      have h3 : ((l.length : Int) == 1) = false := beq_eq_false_iff_ne.2 (by omega)
      have h4 : ((l.length : Int) != 1) = true := by rw [bne_iff_ne]; omega
      have h5 : ¬ l = [1] := fun h => h1 (by rw [h]; rfl)
      have H5 := Lib.hid h5; clear h5
      rw [hW1] at q0 q1
      have HW1 := Lib.hid hW1; clear hW1
      go_enter Try.func59, Try.ntmps59
      go_wp2
      go_ret
      exact ⟨by rw [decide_eq_false H5.out]; rfl, by rw [← HW1.out]; exact HB1.out⟩
end Go.Proofs.Ytnkinjilnccmfaa
/- order: the reference's Valid of rational numbers answers. -/
namespace Go.Proofs.Ytnkinjilnccmfaa
open Go.RowKit Go.Own Go.BigFrame Go.Big Go.Order
set_option maxRecDepth 100000 in
set_option maxHeartbeats 3200000 in
theorem qvalid_any (x y : Num) (w : World) (hx : x.At w) (hy : y.At w) :
    Calls Try.prog 30 #[.agg #[.bool x.n, x.sl, .bool y.n, y.sl]] w fun e w' => ∃ bb, e = .returned (.bool bb) ∧ Below w.heap.size w w' := by
  obtain ⟨xn, xd, xs, xc⟩ := x
  obtain ⟨yn, yd, ys, yc⟩ := y
  have hxr : Sz w (.slice xs xd.length xc) xd.length (intsI xd) := hx.rd
  have hyr : Sz w (.slice ys yd.length yc) yd.length (intsI yd) := hy.rd
  have hxl : xd.length ≤ AL := hx.len
  have hyl : yd.length ≤ AL := hy.len
  have hxc : xd.length ≤ xc := hx.cap
  have hyc : yd.length ≤ yc := hy.cap
  clear hx hy
  show Calls Try.prog 30 #[.agg #[.bool xn, .slice xs xd.length xc, .bool yn, .slice ys yd.length yc]] w _
  obtain ⟨W1, hW1⟩ : ∃ W1, W1 = w.alloc (.cells #[.bool xn, .slice xs xd.length xc, .bool yn, .slice ys yd.length yc] 54) := ⟨_, rfl⟩
  have hB : Blk W1 w.heap.size [.bool xn, .slice xs xd.length xc, .bool yn, .slice ys yd.length yc] 54 := by rw [hW1]; exact Blk.new w #[.bool xn, .slice xs xd.length xc, .bool yn, .slice ys yd.length yc] 54
  have b1 : Below w.heap.size w W1 := by rw [hW1]; exact alloc_below _ _
  have hq : ∀ U, Below W1.heap.size W1 U → U.cell? ⟨w.heap.size, 0, none⟩ = some (.bool xn) ∧ U.cell? ⟨w.heap.size, 1, none⟩ = some (.slice xs xd.length xc) ∧ U.cell? ⟨w.heap.size, 2, none⟩ = some (.bool yn) ∧ U.cell? ⟨w.heap.size, 3, none⟩ = some (.slice ys yd.length yc) := fun U hU =>
    have h := hB.below hU hB.lt
    ⟨h.cell rfl, h.cell rfl, h.cell rfl, h.cell rfl⟩
  have hU : ∀ U, Below W1.heap.size W1 U → Below w.heap.size w U := fun U h => b1.trans (h.mono b1.size)
  have HXR := Lib.hid hxr; clear hxr
  have HYR := Lib.hid hyr; clear hyr
  have HXL := Lib.hid hxl; clear hxl
  have HYL := Lib.hid hyl; clear hyl
  have HXC := Lib.hid hxc; clear hxc
  have HYC := Lib.hid hyc; clear hyc
  have HQ := Lib.hid hq; clear hq
  have HU := Lib.hid hU; clear hU b1 hB
  obtain ⟨q0, q1, q2, q3⟩ := HQ.out W1 (Below.refl _ _)
  have hv1 := valid_any xn xd xs xc W1 ((HXR.out).below (HU.out W1 (Below.refl _ _))) (by have := HXL.out; unfold AL at this; unfold LL; omega)
  have HV1 := Lib.hid hv1; clear hv1
  rw [hW1] at q0 q1 q2 q3
  have HW1 := Lib.hid hW1; clear hW1
  go_enter Try.func30, Try.ntmps30
  go_wp2_with (fail)
  rw [← HW1.out]
  refine HV1.out.mono ?_
  rintro e w1 ⟨rfl, b1⟩
  clear q0 q1 q2 q3
  obtain ⟨v1, hv1⟩ : ∃ v1, v1 = validB xn xd := ⟨_, rfl⟩
  rw [← hv1]
  have HE1 := Lib.hid hv1; clear hv1
  cases v1 with
  | false =>
    go_wp2
    go_ret
    exact ⟨_, rfl, HU.out _ b1⟩
  | true =>
    obtain ⟨q0, q1, q2, q3⟩ := HQ.out w1 b1
    have hv2 := valid_any yn yd ys yc w1 ((HYR.out).below (HU.out w1 b1)) (by have := HYL.out; unfold AL at this; unfold LL; omega)
    have HV2 := Lib.hid hv2; clear hv2
    have HB1 := Lib.hid b1; clear b1
    go_wp2_with (fail)
    refine HV2.out.mono ?_
    rintro e w2 ⟨rfl, b2⟩
    clear q0 q1 q2 q3
    have b2' : Below W1.heap.size W1 w2 := (HB1.out).trans (b2.mono (HB1.out).size)
    obtain ⟨v2, hv2⟩ : ∃ v2, v2 = validB yn yd := ⟨_, rfl⟩
    rw [← hv2]
    have HE2 := Lib.hid hv2; clear hv2 b2
    cases v2 with
    | false =>
      go_wp2
      go_ret
      exact ⟨_, rfl, HU.out _ b2'⟩
    | true =>
      obtain ⟨q0, q1, q2, q3⟩ := HQ.out w2 b2'
      cases yn with
      | true =>
        go_wp2
        go_ret
        exact ⟨_, rfl, HU.out _ b2'⟩
      | false =>
        have ho := one_any false yd ys yc w2 ((HYR.out).below (HU.out w2 b2'))
        have HO := Lib.hid ho; clear ho
        have HB2 := Lib.hid b2'; clear b2'
        go_wp2_with (fail)
        refine HO.out.mono ?_
        rintro e w3 ⟨rfl, b3⟩
        clear q0 q1 q2 q3
        have b3' : Below W1.heap.size W1 w3 := (HB2.out).trans (b3.mono (HB2.out).size)
        obtain ⟨v3, hv3⟩ : ∃ v3, v3 = (!false && decide (yd = [1])) := ⟨_, rfl⟩
        rw [← hv3]
        clear hv3 b3
        cases v3 with
        | true =>
          go_wp2
          go_ret
          exact ⟨_, rfl, HU.out _ b3'⟩
        | false =>
          obtain ⟨q0, q1, q2, q3⟩ := HQ.out w3 b3'
          by_cases h0 : yd.length = 0
          · have h1 : ((yd.length : Int) == 0) = true := by rw [h0]; rfl
            have h2 : ((yd.length : Int) = 0) = True := eq_true (by omega)
            go_wp2
            go_ret
            exact ⟨_, rfl, HU.out _ b3'⟩
          · have h1 : ((yd.length : Int) == 0) = false := beq_eq_false_iff_ne.2 (by omega)
            have h2 : ((yd.length : Int) = 0) = False := eq_false (by omega)
            have h3 : (yd = []) = False := eq_false fun h => h0 (by rw [h]; rfl)
            obtain ⟨X, hX, hXc⟩ := can_of_valid (HE1.out).symm
            obtain ⟨Y, hY, hYc⟩ := can_of_valid (HE2.out).symm
            have lx : X.length = xd.length := by rw [hX]; simp
            have ly : Y.length = yd.length := by rw [hY]; simp
            have hg := gcd_any xn false X Y xs ys xc yc w3 hXc hYc (by
              have := (HXR.out).below (HU.out w3 b3')
              rw [hX, intsI_nts] at this
              rw [show (X.map fun d : Nat => (d : Int)).length = X.length by simp] at this
              exact this) (by
              have := (HYR.out).below (HU.out w3 b3')
              rw [hY, intsI_nts] at this
              rw [show (Y.map fun d : Nat => (d : Int)).length = Y.length by simp] at this
              exact this) (by have := HXL.out; rw [lx]; unfold AL at this; unfold LL; omega) (by have := HYL.out; rw [ly]; unfold AL at this; unfold LL; omega) (by rw [lx]; exact HXC.out) (by rw [ly]; exact HYC.out)
            rw [lx, ly] at hg
            have HG := Lib.hid hg; clear hg
            clear hX hY hXc hYc lx ly
            have HB3 := Lib.hid b3'; clear b3'
            go_wp2_with (fail)
            refine HG.out.mono ?_
            rintro e w4 ⟨r, sr, cr, rfl, hs4, b4⟩
            have b4' : Below W1.heap.size W1 w4 := (HB3.out).trans (b4.mono (HB3.out).size)
            have lr : (r.map fun d : Nat => (d : Int)).length = r.length := by simp
            have ho := one_any false (r.map fun d : Nat => (d : Int)) sr cr w4 (by rw [intsI_nts, lr]; exact Sz.of hs4)
            rw [lr] at ho
            have HO2 := Lib.hid ho; clear ho hs4 lr b4
            have HB4 := Lib.hid b4'; clear b4' q0 q1 q2 q3 h1 h2 h3
            go_wp2_with (fail)
            refine HO2.out.mono ?_
            rintro e w5 ⟨rfl, b5⟩
            have b5' : Below W1.heap.size W1 w5 := (HB4.out).trans (b5.mono (HB4.out).size)
            obtain ⟨v5, hv5⟩ : ∃ v5, v5 = (!false && decide ((r.map fun d : Nat => (d : Int)) = [1])) := ⟨_, rfl⟩
            rw [← hv5]
            clear hv5
            go_wp2
            go_ret
            exact ⟨_, rfl, HU.out _ b5'⟩
end Go.Proofs.Ytnkinjilnccmfaa
/- order: splits in memory; a law's plain answers. -/
namespace Go.Order
open Go.RowKit Go.Own Go.Big Go.Proofs.Ytnkinjilnccmfaa
/-- a split as it lies in memory -/
structure Spl where
  w : Int
  p : Int
  a : Num
  b : Num
  c : Num
  d : Num
def Spl.cells (x : Spl) : List Value := [.int .i64 x.w, .int .i64 x.p, .bool x.a.n, x.a.sl, .bool x.b.n, x.b.sl, .bool x.c.n, x.c.sl, .bool x.d.n, x.d.sl]
structure Spl.At (W : World) (x : Spl) : Prop where
  a : x.a.At W
  b : x.b.At W
  c : x.c.At W
  d : x.d.At W
theorem Spl.At.below {w w' : World} {x : Spl} (h : x.At w) (hb : Below w.heap.size w w') : x.At w' := ⟨h.a.below hb, h.b.below hb, h.c.below hb, h.d.below hb⟩
def flat (l : List Spl) : List Value := (l.map Spl.cells).flatten
theorem flat_len (l : List Spl) : (flat l).length = l.length * 10 := by
  unfold flat
  induction l with
  | nil => rfl
  | cons x l ih => rw [List.map_cons, List.flatten_cons, List.length_append, ih, List.length_cons]; show 10 + l.length * 10 = _; omega
theorem flat_cons (x : Spl) (l : List Spl) : flat (x :: l) = x.cells ++ flat l := by unfold flat; simp
theorem flat_app (a b : List Spl) : flat (a ++ b) = flat a ++ flat b := by unfold flat; simp
theorem flat_at : ∀ {l : List Spl} {i j : Nat} (h : i < l.length), j < 10 → (flat l)[i * 10 + j]? = l[i].cells[j]?
  | x :: l, 0, j, _, hj => by
    rw [flat_cons, Nat.zero_mul, Nat.zero_add, List.getElem?_append_left (by show j < 10; exact hj)]; rfl
  | x :: l, i + 1, j, h, hj => by
    rw [flat_cons, List.getElem?_append_right (by show 10 ≤ _; omega)]
    show (flat l)[(i + 1) * 10 + j - 10]? = _
    rw [show (i + 1) * 10 + j - 10 = i * 10 + j by omega, flat_at (by simpa using h) hj]
    rfl
/-- a list of splits that reads -/
structure Lst (W : World) (v : Value) (l : List Spl) : Prop where
  sl : Sl W 10 v l.length (flat l)
  at' : ∀ x ∈ l, x.At W
theorem Lst.below {w w' : World} {v : Value} {l : List Spl} (h : Lst w v l) (hb : Below w.heap.size w w') : Lst w' v l := ⟨h.sl.below hb, fun x hx => (h.at' x hx).below hb⟩
theorem Lst.at {w : World} {n cap : Nat} {sa : Option Addr} {l : List Spl} (h : Lst w (.slice sa n cap) l) (hn : 0 < l.length) :
    ∃ b off, sa = some ⟨b, off, none⟩ ∧ n = l.length ∧ l.length ≤ cap ∧ cap ≤ maxLen ∧ (∀ i j v, (h : i < l.length) → l[i].cells[j]? = some v → w.cell? ⟨b, off + i * 10 + j, none⟩ = some v) ∧ b < w.heap.size := by
  obtain ⟨_, ⟨h2, h3⟩ | ⟨b, off, cap', h2, h3, h4, h5, h6⟩⟩ := h.sl
  · omega
  · injection h2 with h2 h8 h7
    subst h7
    refine ⟨b, off, h2, h8, h3, h4, fun i j v hi hj => ?_, h6⟩
    have h9 : j < 10 := (List.getElem?_eq_some_iff.1 hj).1
    have := h5 (i * 10 + j) v (by rw [flat_at hi h9]; exact hj)
    rwa [show off + (i * 10 + j) = off + i * 10 + j by omega] at this
end Go.Order
namespace Go.Proofs.Ytnkinjilnccmfaa
open Go.RowKit Go.Own Go.BigFrame Go.Big Go.Order
set_option maxRecDepth 100000 in
set_option maxHeartbeats 3200000 in
theorem plain_any (l : List Spl) (s : Option Addr) (cap : Nat) (w : World) (hl : Lst w (.slice s l.length cap) l) (hn : l.length < 4611686018427387904) :
    Calls Try.prog 10 #[.slice s l.length cap] w fun e w' => ∃ bb, e = .returned (.bool bb) ∧ Below w.heap.size w w' := by
  have HL := Lib.hid hl; clear hl
  have hn2 : (l.length : Int) < 4611686018427387904 := by omega
  go_enter Try.func10, Try.ntmps10
  go_wp2
  go_loopw [3] (fun v wr => ∃ i : Nat, i ≤ l.length ∧ v = .int .i64 i ∧ Below w.heap.size w wr) (fun v _ => l.length - (vInt v).toNat)
  case atStart => exact ⟨0, Nat.zero_le _, rfl, Below.refl _ _⟩
  case round =>
    obtain ⟨i, hi, rfl, hbr⟩ := hrel
    by_cases h1 : i < l.length
    · have h1' : (i : Int) < l.length := by omega
      obtain ⟨x, hx⟩ : ∃ x, x = l[i] := ⟨_, rfl⟩
      have hxm : x ∈ l := by rw [hx]; exact List.getElem_mem _
      obtain ⟨g, o, rfl, _, _, _, hC, hg⟩ := (HL.out).at (by omega)
      have hq : ∀ U, Below w.heap.size w U → U.cell? ⟨g, o + i * 10 + 2, none⟩ = some (.bool x.a.n) ∧ U.cell? ⟨g, o + i * 10 + 3, none⟩ = some x.a.sl ∧ U.cell? ⟨g, o + i * 10 + 4, none⟩ = some (.bool x.b.n) ∧ U.cell? ⟨g, o + i * 10 + 5, none⟩ = some x.b.sl ∧ U.cell? ⟨g, o + i * 10 + 6, none⟩ = some (.bool x.c.n) ∧ U.cell? ⟨g, o + i * 10 + 7, none⟩ = some x.c.sl ∧ U.cell? ⟨g, o + i * 10 + 8, none⟩ = some (.bool x.d.n) ∧ U.cell? ⟨g, o + i * 10 + 9, none⟩ = some x.d.sl := fun U hU => by
        have k : ∀ j v, x.cells[j]? = some v → U.cell? ⟨g, o + i * 10 + j, none⟩ = some v := fun j v hj => by
          rw [hx] at hj
          exact (hU.cell (p := ⟨g, o + i * 10 + j, none⟩) hg).trans (hC i j v h1 hj)
        exact ⟨k 2 _ rfl, k 3 _ rfl, k 4 _ rfl, k 5 _ rfl, k 6 _ rfl, k 7 _ rfl, k 8 _ rfl, k 9 _ rfl⟩
      have hv1 := qvalid_any x.a x.b wr (((HL.out).at' x hxm).below hbr).a (((HL.out).at' x hxm).below hbr).b
      have hv2 := fun U (hU : Below w.heap.size w U) => qvalid_any x.c x.d U (((HL.out).at' x hxm).below hU).c (((HL.out).at' x hxm).below hU).d
      have HV1 := Lib.hid hv1; clear hv1
      have HV2 := Lib.hid hv2; clear hv2
      obtain ⟨q2, q3, q4, q5, _, _, _, _⟩ := hq wr hbr
      have HQ := Lib.hid hq; clear hq hx hxm hC
      have HBR := Lib.hid hbr; clear hbr
      go_wp2_with (fail)
      refine HV1.out.mono ?_
      rintro e w1 ⟨v1, rfl, b1⟩
      have b1' : Below w.heap.size w w1 := (HBR.out).trans (b1.mono (HBR.out).size)
      clear q2 q3 q4 q5 b1
      cases v1 with
      | false =>
        go_wp2
        go_ret
        exact ⟨_, rfl, b1'⟩
      | true =>
        obtain ⟨_, _, _, _, q6, q7, q8, q9⟩ := HQ.out w1 b1'
        have HB1 := Lib.hid b1'; clear b1'
        go_wp2_with (fail)
        refine (HV2.out w1 HB1.out).mono ?_
        rintro e w2 ⟨v2, rfl, b2⟩
        have b2' : Below w.heap.size w w2 := (HB1.out).trans (b2.mono (HB1.out).size)
        clear q6 q7 q8 q9 b2
        cases v2 with
        | false =>
          go_wp2
          go_ret
          exact ⟨_, rfl, b2'⟩
        | true =>
          have HB2 := Lib.hid b2'; clear b2'
          go_wp2
          go_roundw
          case rel => exact ⟨i + 1, by omega, by go_num, HB2.out⟩
          case measure => simp [vInt]; omega
    · have h1' : ((i : Int) < l.length) = False := eq_false (by omega)
      go_wp2
      go_ret
      exact ⟨_, rfl, hbr⟩
end Go.Proofs.Ytnkinjilnccmfaa
