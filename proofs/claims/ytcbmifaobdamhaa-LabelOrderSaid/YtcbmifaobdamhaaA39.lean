/- label: the walk over turned. -/
import Derived.Test.YtcbmifaobdamhaaA38
namespace Go.Proofs.Ytcbmifaobdamhaa
open Go.RowKit Go.Own Go.Theory Go.BigFrame Go.Ib Go.Label Go.Shelf
attribute [local irreducible] SqC.SqW
theorem aggR : (match Try.prog.underlying 61 with | some (.struct _) | some (.array _ _) => true | _ => false) = true := by kernel_rfl
theorem infoRule : (Try.prog.info? 61).map (fun i => (i.zero, i.size, i.bytes)) = some (some (.agg #[.int .i64 0, .slice none 0 0]), 2, 32) := by kernel_rfl
theorem hTrule : Try.prog.underlying 23 = some (.slice 61) := by kernel_rfl
theorem infoR : (Try.prog.info? 61).map (·.size) = some 2 := by kernel_rfl
set_option maxRecDepth 100000 in
set_option maxHeartbeats 4000000 in
theorem turned_any (b : Lg) (z : Int) (sa sr : Option Addr) (ca cr : Nat) (bs : List Value) (hz : rg z) (w : World) (h : LgAt w b sa sr ca cr bs) (ok : Ok b) :
    Calls Try.prog 32 #[lgV b sa sr ca cr, .int .i64 z] w fun e w' => ∃ a c sr' cr' bs', (0 < b.rules.length → a < b.rules.length) ∧ (0 < b.rules.length → c < b.rules.length) ∧ e = .returned (lgV (turnLg b a c) sa sr' ca cr') ∧ LgAt w' (turnLg b a c) sa sr' ca cr' bs' ∧ Below w.heap.size w w' := by
  have hlgV : lgV b sa sr ca cr = .agg #[.int .i64 b.facts, .slice sa b.assume.length ca, .slice sr b.rules.length cr] := rfl
  have hbox := box_new w b sa sr ca cr 25
  obtain ⟨W1, hW1⟩ : ∃ W1, W1 = w.alloc (.cells #[.int .i64 b.facts, .slice sa b.assume.length ca, .slice sr b.rules.length cr] 25) := ⟨_, rfl⟩
  rw [← hW1] at hbox
  have hH := h.below hbox.b1
  have HOK := Lib.hid ok
  have r64 := ok.r64
  rw [hlgV]
  obtain ⟨F, hF⟩ : ∃ F, F = b.facts := ⟨_, rfl⟩
  obtain ⟨n, hn⟩ : ∃ n, n = b.rules.length := ⟨_, rfl⟩
  obtain ⟨la, hla⟩ : ∃ la, la = b.assume.length := ⟨_, rfl⟩
  have hcell : ∀ U, Below W1.heap.size W1 U → U.cell? ⟨w.heap.size, 0, none⟩ = some (.int .i64 F) ∧ U.cell? ⟨w.heap.size, 1, none⟩ = some (.slice sa la ca) ∧ U.cell? ⟨w.heap.size, 2, none⟩ = some (.slice sr n cr) := fun U hU => by
    rw [hF, hn, hla]; exact hbox.cell U hU
  rw [← hF, ← hn, ← hla] at hW1 ⊢
  rw [← hn] at r64
  have HC := Lib.hid hcell; clear hcell
  have HBOX := Lib.hid hbox; clear hbox
  have HH := Lib.hid hH; clear hH h
  have HLV := Lib.hid hlgV; clear hlgV
  have HF := Lib.hid hF; clear hF
  have HN := Lib.hid hn; clear hn
  have HLA := Lib.hid hla; clear hla ok
  go_enter Try.func32, Try.ntmps32
  obtain ⟨a, ha, haw⟩ : ∃ a : Nat, (0 < n → a < n) ∧ (0 < n → around z n = a) := by
    by_cases h0 : 0 < n
    · obtain ⟨k, h1, h2⟩ := around_rg z h0
      exact ⟨k, fun _ => h2, fun _ => h1⟩
    · exact ⟨0, fun h => absurd h h0, fun h => absurd h h0⟩
  obtain ⟨Bo, hBo⟩ : ∃ Bo, Bo = w.heap.size + 1 + 1 := ⟨_, rfl⟩
  have z1 := HBOX.out.sz
  obtain ⟨W0, hW0⟩ : ∃ W0, W0 = (W1.alloc (.cells #[.int .i64 0, .slice none 0 0, .slice none 0 0] 25)).alloc (.cells #[.int .i64 F, .slice sa la ca, .slice none 0 0] 25) := ⟨_, rfl⟩
  have b0 : Below W1.heap.size W1 W0 := by rw [hW0]; exact (alloc_below _ _).alloc (by simp) _
  have sz0 : W0.heap.size = Bo + 1 := by rw [hW0, hBo]; simp; omega
  have kR : Blk W0 (w.heap.size + 1) [.int .i64 0, .slice none 0 0, .slice none 0 0] 25 := by
    rw [hW0, show w.heap.size + 1 = W1.heap.size by omega]; exact (Blk.new _ _ _).alloc _
  have kO : Blk W0 Bo [.int .i64 F, .slice sa la ca, .slice none 0 0] 25 := by rw [hW0]; exact Blk.new_at _ _ _ (by rw [hBo]; simp; omega)
  have oT : TurnM 25 61 W0 W0 Bo F (.slice sa la ca) [] [] (.slice none 0 0) := ⟨by omega, kO, World.ownsRow_nil _ _ _ _, rfl, fun i h => absurd h (by simp), Chg.refl _ _⟩
  rw [hW1] at hW0
  have HW0 := Lib.hid hW0; clear hW0 hW1
  have HB0 := Lib.hid b0; clear b0
  have HKR := Lib.hid kR; clear kR kO
  have HT := Lib.hid oT; clear oT
  go_wp2
  rw [← HW0.out, ← hBo]
  have HBO := Lib.hid hBo; clear hBo
  have hrl : (turnRs b.rules a).length = n := by unfold turnRs; rw [HN.out]; simp
  obtain ⟨RS, hRS⟩ : ∃ RS, RS = turnRs b.rules a := ⟨_, rfl⟩
  rw [← hRS] at hrl
  have HRS := Lib.hid hRS; clear hRS
  have HRL := Lib.hid hrl; clear hrl
  go_loopw [7] (fun c wq => ∃ i : Nat, i ≤ n ∧ c = .int .i64 i ∧ ∃ bods vr, TurnM 25 61 W0 wq Bo F (.slice sa la ca) (RS.take i) bods vr) (fun c _ => n - (vInt c).toNat)
  case atStart => exact ⟨0, by omega, rfl, [], _, by simpa using HT.out⟩
  case round =>
    clear HT
    obtain ⟨i, hi, rfl, bods, vr, hT⟩ := hrel
    have hbase : Below W1.heap.size W1 wr := hT.low HB0.out (by have := HBO.out; omega)
    by_cases hin : i < n
    · have hin' : (i : Int) < n := by omega
      have hn0 : 0 < n := by omega
      have ha' := ha hn0
      have har := around_any z n hz ⟨by omega, by omega⟩
      rw [haw hn0] at har
      obtain ⟨j, hj⟩ : ∃ j, j = (i + a) % n := ⟨_, rfl⟩
      have hjn : j < n := by rw [hj]; exact Nat.mod_lt _ hn0
      have hjn' : (j : Int) < n := by omega
      have hrem : Int.tmod ((i : Int) + a) n = (j : Int) := by
        rw [hj, show ((i : Int) + a) = ((i + a : Nat) : Int) by omega, Int.ofNat_tmod]
      have hjb : j < b.rules.length := by rw [← HN.out]; exact hjn
      obtain ⟨g, o, sb, cb, rfl, hrc, hsz⟩ := HH.out.rule hjb
      have hRi : RS.take (i + 1) = RS.take i ++ [turnRl b.rules[j]] := by
        have h1 : i < RS.length := by rw [HRL.out]; exact hin
        rw [List.take_succ_eq_append_getElem h1]
        congr 2
        have h2 : RS[i]? = some (turnRl b.rules[j]) := by
          rw [HRS.out]
          unfold turnRs
          rw [← HN.out, List.getElem?_map, List.getElem?_range hin]
          show some (turnRl (b.rules.getD ((i + a) % n) rl0)) = _
          rw [← hj, getD_eq rl0 hjb]
        rw [List.getElem?_eq_getElem h1] at h2
        injection h2
      obtain ⟨r, hr⟩ : ∃ r, r = b.rules[j] := ⟨_, rfl⟩
      rw [← hr] at hRi hrc hsz
      have hb16 : r.body.length ≤ 16 := by rw [hr]; exact HOK.out.long _ (List.getElem_mem hjb)
      have HRI := Lib.hid hRi; clear hRi hr
      have HRC := Lib.hid hrc; clear hrc
      have HSZ := Lib.hid hsz; clear hsz
      have HJ := Lib.hid hj; clear hj hjb
      have HAR := Lib.hid har; clear har
      have HT := Lib.hid hT; clear hT
      have hxc : ∀ U, Below wr.heap.size wr U → U.cell? ⟨w.heap.size, 2, none⟩ = some (.slice (some ⟨g, o, none⟩) n cr) := fun U hU => (HC.out U (hbase.trans (hU.mono hbase.size))).2.2
      have hrl : ∀ U, Below wr.heap.size wr U → Cells U g (o + j * 2) [.int .i64 r.head, .slice sb r.body.length cb] := fun U hU => by
        obtain ⟨e1, e2⟩ := HRC.out U (hbase.trans (hU.mono hbase.size))
        intro q u hq
        match q, hq with
        | 0, hq => simp at hq; subst hq; exact e1
        | 1, hq => simp at hq; subst hq; exact e2
      have HXC := Lib.hid hxc; clear hxc
      have HRL2 := Lib.hid hrl; clear hrl
      have HBS := Lib.hid hbase; clear hbase
      go_wp2
      refine wp_region_sqB 12 [1, 5, 10, 11] (fun i v W => match i with
        | 1 => v = .slice (some ⟨g, o, none⟩) n cr
        | 5 => v = .int .i64 (a : Int)
        | 10 => v = .agg #[.int .i64 r.head, .slice sb r.body.length cb]
        | 11 => ∃ R, v = .pointer (some ⟨R, 0, none⟩) ∧ wr.heap.size ≤ R ∧ Blk W R [.int .i64 0, .slice none 0 0] 61
        | _ => True) (by kernel_rfl) (by kernel_rfl) ?stable ?main
      case stable =>
        intro i v W W' h hb
        match i, h with
        | 0, h => exact h
        | 1, h => exact h
        | 2, h => exact h
        | 3, h => exact h
        | 4, h => exact h
        | 5, h => exact h
        | 6, h => exact h
        | 7, h => exact h
        | 8, h => exact h
        | 9, h => exact h
        | 10, h => exact h
        | 11, h => obtain ⟨R, h1, h2, h3⟩ := h; exact ⟨R, h1, h2, h3.below hb h3.lt⟩
        | _ + 12, _ => exact trivial
      simp only [List.take_succ_cons, List.take_zero, List.drop_succ_cons, List.drop_zero]
      have hxu : ∀ U, ExtB wr.drew U → Below wr.heap.size wr U := fun U hU => ExtB.undrew hU
      iterate 1 (refine sqw_quiet rfl rfl (ExtB.refl _) ?_; go_big_quiet_step (fail); refine wpQuiet_nil ?_)
      refine sqw_postY rfl rfl rfl ?_ ?_
      · intro U hb hf
        have cx := HXC.out U (hxu U hb)
        refine yields_value (v := .slice (some ⟨g, o, none⟩) n cr) (w' := U) ?_ ⟨rfl, ExtB.refl _⟩
        go_simp
      intro v Wj hv
      obtain rfl : v = .slice (some ⟨g, o, none⟩) n cr := hv
      simp only [Act.put, List.setIfInBounds_toArray, List.set_cons_zero, List.set_cons_succ]
      iterate 3 (refine sqw_quiet rfl rfl (ExtB.refl _) ?_; go_big_quiet_step (fail); refine wpQuiet_nil ?_)
      refine sqw_postY rfl rfl rfl ?_ ?_
      · intro U hb hf
        refine yields_call rfl (by kernel_rfl) rfl rfl ((HAR.out U).mono ?_)
        rintro e u1 ⟨rfl, rfl⟩
        exact ⟨_, rfl, rfl, ExtB.refl _⟩
      intro v Wj hv
      obtain rfl : v = .int .i64 (a : Int) := hv
      simp only [Act.put, List.setIfInBounds_toArray, List.set_cons_zero, List.set_cons_succ]
      iterate 4 (refine sqw_quiet rfl rfl (ExtB.refl _) ?_; go_big_quiet_step (fail); refine wpQuiet_nil ?_)
      refine sqw_postY rfl rfl rfl ?_ ?_
      · intro U hb hf
        exact yields_value (load_agg_exec rfl rfl (run_load_agg (P := Try.prog) (ty := 61) (HRL2.out U (hxu U hb)) aggR infoR)) ⟨rfl, ExtB.refl _⟩
      intro v Wj hv
      obtain rfl : v = .agg #[.int .i64 r.head, .slice sb r.body.length cb] := hv
      simp only [Act.put, List.setIfInBounds_toArray, List.set_cons_zero, List.set_cons_succ]
      refine sqw_postY rfl rfl rfl ?_ ?_
      · intro U hb hf
        refine yields_value (v := .pointer (some ⟨U.heap.size, 0, none⟩)) (w' := U.alloc (.cells #[.int .i64 0, .slice none 0 0] 61)) ?_ ⟨⟨_, rfl, (hxu U hb).size, Blk.new _ _ _⟩, ExtB.of (alloc_below _ _)⟩
        go_simp
      intro v Wj hv
      obtain ⟨R, rfl, _⟩ := hv
      simp only [Act.put, List.setIfInBounds_toArray, List.set_cons_zero, List.set_cons_succ]
      refine sqw_nil ?_
      intro w7 hb hf
      obtain ⟨R', hR1, hR2, hR3⟩ : ∃ R', Value.pointer (some ⟨R, 0, none⟩) = .pointer (some ⟨R', 0, none⟩) ∧ wr.heap.size ≤ R' ∧ Blk w7 R' [.int .i64 0, .slice none 0 0] 61 := hf 11 8 (by decide) (by kernel_rfl) rfl (fun o h => by obtain rfl := Option.some.inj h; rfl)
      injection hR1 with e1
      injection e1 with e1
      injection e1 with e1
      subst e1
      have hb7 : Below wr.heap.size wr w7 := hxu w7 hb
      clear hf hb hxu
      go_wp2_with (refine wpList_store_blk (ty := 61) (n := 2) (vs := [.int .i64 r.head, .slice sb r.body.length cb]) hR3 rfl rfl rfl rfl rfl infoR rfl (by simp) (by intro u hu; simp at hu; rcases hu with hu | hu <;> (subst hu; rfl)) ?_)
      intro w8 k1 k2
      have e8 : Below wr.heap.size wr w8 := k2.below hb7 hR2
      have hBk : Blk w8 R [.int .i64 r.head, .slice sb r.body.length cb] 61 := k1
      clear k1 k2 hR3 hb7
      have hT8 := HT.out.below e8
      have hbs8 : Below W1.heap.size W1 w8 := HBS.out.trans (e8.mono HBS.out.size)
      have c81 : w8.cell? ⟨R, 1, none⟩ = some (.slice sb r.body.length cb) := hBk.cell rfl
      have HT8 := Lib.hid hT8; clear hT8 HT HBS HXC HRL2 e8
      have HBS := Lib.hid hbs8; clear hbs8
      have HBK := Lib.hid hBk; clear hBk
      have hsplit : ∀ p : Nat, (p = 0 ∧ Value.int .i64 ((p : Int) - 1) = .int .i64 (-1)) ∨ ∃ p', p = p' + 1 ∧ Value.int .i64 ((p : Int) - 1) = .int .i64 (p' : Int) := fun p => by
        cases p with
        | zero => exact .inl ⟨rfl, rfl⟩
        | succ p' => exact .inr ⟨p', rfl, by congr 1; omega⟩
      have HSP := Lib.hid hsplit; clear hsplit
      obtain ⟨bl, hbl⟩ : ∃ bl, bl = r.body := ⟨_, rfl⟩
      rw [← hbl] at hb16 HSZ c81 HBK ⊢
      have HBL := Lib.hid hbl; clear hbl
      go_wp2
      clear c81
      go_loopw [9, 10] (fun v9 vk wq => ∃ p q : Nat, p + q = bl.length ∧ ((p = 0 ∧ vk = .int .i64 (-1)) ∨ ∃ p', p = p' + 1 ∧ vk = .int .i64 (p' : Int)) ∧ wq.ownsRow w8.heap.size 3 1 v9 q ((bl.reverse.take q).map (.int .i64)) ∧ Below w8.heap.size w8 wq) (fun _ vk _ => (vInt vk + 1).toNat)
      case atStart => exact ⟨bl.length, 0, by omega, HSP.out bl.length, by simpa using World.ownsRow_nil _ _ _ _, Below.refl _ _⟩
      case round =>
        obtain ⟨p, q, hpq, hk, ho9, hb9⟩ := hrel
        obtain ⟨s9, c9, rfl, _⟩ := own_slice ho9
        have HO9 := Lib.hid ho9; clear ho9
        have c1 : wr.cell? ⟨R, 1, none⟩ = some (.slice sb bl.length cb) := (HBK.out.below hb9 HBK.out.lt).cell rfl
        rcases hk with ⟨rfl, rfl⟩ | ⟨p', rfl, rfl⟩
        · have hq : q = bl.length := by omega
          have ho := HO9.out
          rw [hq, List.take_of_length_le (by simp)] at ho
          rw [hq]
          have HO := Lib.hid ho; clear ho HO9 hq hpq
          have HB9 := Lib.hid hb9; clear hb9 c1
          by_cases hl0 : bl.length = 0
          · have hbl0 : bl = [] := List.length_eq_zero_iff.1 hl0
            have hX : turnB bl = bl.reverse := by unfold turnB; rw [if_neg (by omega)]
            obtain ⟨X, hXe⟩ : ∃ X, X = turnB bl := ⟨_, rfl⟩
            have eL : bl.length = X.length := by rw [hXe, hX]; simp
            have hl0' : X.length = 0 := by omega
            have ho := HO.out
            rw [← hX, ← hXe] at ho
            rw [eL] at ho ⊢
            have hL16 : X.length ≤ 16 := by omega
            have hwz : ((X.length : Int) = 0) = True := eq_true (by omega)
            have hwz2 : ((0 : Int) < X.length) = False := eq_false (by omega)
            have hwz3 : (0 < X.length) = False := eq_false (by omega)
            have HXE := Lib.hid hXe; clear hXe hX eL hl0 hl0' hbl0
            have HOX := Lib.hid ho; clear ho HO
            obtain ⟨wy, hwy⟩ : ∃ wy, wy = wr := ⟨_, rfl⟩
            rw [← hwy] at HOX HB9 ⊢
            clear hwy
            have hT9 := HT8.out.below HB9.out
            obtain ⟨sv, cv, rfl, _⟩ := own_slice hT9.own
            have hml : (RS.take i).length ≤ 64 := by rw [List.length_take]; omega
            obtain ⟨T, hTe⟩ : ∃ T, T = RS.take i := ⟨_, rfl⟩
            rw [← hTe] at hT9 hml
            have HTE := Lib.hid hTe; clear hTe
            have c2 : wy.cell? ⟨Bo, 2, none⟩ = some (.slice sv T.length cv) := hT9.ob.cell rfl
            have c0 : wy.cell? ⟨R, 0, none⟩ = some (.int .i64 r.head) := (HBK.out.below HB9.out HBK.out.lt).cell rfl
            have HOW := hT9.own.alloc (.cells #[.int .i64 r.head, .slice s9 X.length c9] 61)
            have hzs := hT9.size
            obtain ⟨i0, hi1, hi2, hi3, hi4⟩ := info_parts infoRule
            have HT9 := Lib.hid hT9; clear hT9
            go_wp2_with (refine wpList_append_lies _ rfl _ _ 23 rfl W0.heap.size 61 i0 (.agg #[.int .i64 0, .slice none 0 0]) 2 32 hTrule hi1 hi2 hi3 hi4 rfl (by decide) _ T.length _ rfl HOW ⟨wy.heap.size, 0, none⟩ 1 1 [.int .i64 r.head, .slice s9 X.length c9] rfl rfl (World.news_of_block (Blk.new wy #[.int .i64 r.head, .slice s9 X.length c9] 61)) (by intro u hu; simp at hu; rcases hu with hu | hu <;> (subst hu; rfl)) (by decide) (by unfold maxLen; omega) (by omega) (by simp; omega) _ rfl ?_)
            intro gg cap wb g1 g2 g3 g4
            rw [← sz0] at g1
            have hTa := HT9.out.below (alloc_below wy (.cells #[.int .i64 r.head, .slice s9 X.length c9] 61))
            have hz8 := HT8.out.size
            have hbo8 := HT8.out.ob.lt
            have hpu := hTa.push (r := ⟨r.head, X⟩) (sb := s9) (cb := c9) g2 g1 (by rw [World.size_alloc]; exact g3) (fun h0 => ⟨(Sl.of_owns HOX.out).below (alloc_below _ _), fun k hk => by
              have h1 := own_lt HOX.out hk
              refine ⟨fun e => ?_, ?_, by simp; omega⟩
              · have h2 := (own_lt HT8.out.own (HTE.out ▸ e)).2
                omega
              · omega⟩)
            have t9 := hTa.ob.grown g2 (fun e => by have h3 := (own_lt HT9.out.own e.symm).1; have := HT9.out.lt; omega)
            have c29 : wb.cell? ⟨Bo, 2, none⟩ = some (.slice sv T.length cv) := t9.cell rfl
            have f29 : wb.frozen? ⟨Bo, 2, none⟩ = false := t9.frozen 2
            have hri : RS.take (i + 1) = T ++ [⟨r.head, X⟩] := by
              rw [HRI.out, HTE.out, HXE.out, HBL.out]; rfl
            rw [← hri] at hpu
            have HPU := Lib.hid hpu; clear hpu t9 hTa g1 g2 g3 g4 HOW c2 c0 hri
            go_wp2
            go_roundw
            case rel => exact ⟨i + 1, by omega, by go_num, _, _, HPU.out⟩
            case measure => simp [vInt]; omega
          · by_cases hl16 : bl.length < 16
            · obtain ⟨y, hy⟩ : ∃ y, y = bl.reverse.getD 0 0 := ⟨_, rfl⟩
              have hX : turnB bl = bl.reverse ++ [y] := by unfold turnB; rw [if_pos ⟨by omega, hl16⟩, hy]
              obtain ⟨X, hXe⟩ : ∃ X, X = turnB bl := ⟨_, rfl⟩
              have eL : bl.length + 1 = X.length := by rw [hXe, hX]; simp
              obtain ⟨g9, k9, sp9, he9, _, _, _, hB9⟩ := own_blk HO.out (by omega)
              injection he9 with e1 _ e2
              subst e1 e2
              have cy : wr.cell? ⟨g9, 0, none⟩ = some (.int .i64 y) := hB9.cell (by
                rw [List.getElem?_append_left (by simp; omega), List.getElem?_map, hy, List.getD_eq_getElem?_getD]
                rw [List.getElem?_eq_getElem (by simp; omega)]
                rfl)
              have HYX := Lib.hid (hXe.trans hX)
              have HXE := Lib.hid hXe; clear hXe hX hB9 hy
              have HOA := HO.out.alloc (.cells #[.int .i64 y] 3)
              have hsz := HB9.out.size
              have hz0 : (0 : Int) < bl.length := by omega
              have hz1 : (bl.length : Int) < 16 := by omega
              have HEL := Lib.hid eL; clear eL
              go_wp2_with (refine wpList_append_sl rfl _ _ 22 rfl w8.heap.size 3 (.int .i64 0) 1 8 hTint infoInt rfl (by decide) _ bl.length _ rfl HOA _ 1 [.int .i64 y] rfl (sl_new _ _ _ 1 rfl (by decide)) (by intro u hu; simp at hu; rw [hu]; rfl) (by unfold maxLen; omega) (by omega) (by simp; omega) ?_)
              intro v' wy g1 g2
              have hb8 : Below w8.heap.size w8 wy := grown_below (HB9.out.alloc hsz (.cells #[.int .i64 y] 3)) HOA g2 (by simp; omega)
              clear HB9
              have HB9 := Lib.hid hb8; clear hb8
              have ho : wy.ownsRow w8.heap.size 3 1 v' X.length (X.map (.int .i64)) := by
                rw [← HEL.out, HYX.out, List.map_append]
                simpa using g1
              obtain ⟨s9, c9, rfl, _⟩ := own_slice ho
              have hL16 : X.length ≤ 16 := by have := HEL.out; omega
              have HOX := Lib.hid ho; clear ho g1 g2 HOA cy hz0 hz1 HO
              have hT9 := HT8.out.below HB9.out
              obtain ⟨sv, cv, rfl, _⟩ := own_slice hT9.own
              have hml : (RS.take i).length ≤ 64 := by rw [List.length_take]; omega
              obtain ⟨T, hTe⟩ : ∃ T, T = RS.take i := ⟨_, rfl⟩
              rw [← hTe] at hT9 hml
              have HTE := Lib.hid hTe; clear hTe
              have c2 : wy.cell? ⟨Bo, 2, none⟩ = some (.slice sv T.length cv) := hT9.ob.cell rfl
              have c0 : wy.cell? ⟨R, 0, none⟩ = some (.int .i64 r.head) := (HBK.out.below HB9.out HBK.out.lt).cell rfl
              have HOW := hT9.own.alloc (.cells #[.int .i64 r.head, .slice s9 X.length c9] 61)
              have hzs := hT9.size
              obtain ⟨i0, hi1, hi2, hi3, hi4⟩ := info_parts infoRule
              have HT9 := Lib.hid hT9; clear hT9
              go_wp2_with (refine wpList_append_lies _ rfl _ _ 23 rfl W0.heap.size 61 i0 (.agg #[.int .i64 0, .slice none 0 0]) 2 32 hTrule hi1 hi2 hi3 hi4 rfl (by decide) _ T.length _ rfl HOW ⟨wy.heap.size, 0, none⟩ 1 1 [.int .i64 r.head, .slice s9 X.length c9] rfl rfl (World.news_of_block (Blk.new wy #[.int .i64 r.head, .slice s9 X.length c9] 61)) (by intro u hu; simp at hu; rcases hu with hu | hu <;> (subst hu; rfl)) (by decide) (by unfold maxLen; omega) (by omega) (by simp; omega) _ rfl ?_)
              intro gg cap wb g1 g2 g3 g4
              rw [← sz0] at g1
              have hTa := HT9.out.below (alloc_below wy (.cells #[.int .i64 r.head, .slice s9 X.length c9] 61))
              have hz8 := HT8.out.size
              have hbo8 := HT8.out.ob.lt
              have hpu := hTa.push (r := ⟨r.head, X⟩) (sb := s9) (cb := c9) g2 g1 (by rw [World.size_alloc]; exact g3) (fun h0 => ⟨(Sl.of_owns HOX.out).below (alloc_below _ _), fun k hk => by
                have h1 := own_lt HOX.out hk
                refine ⟨fun e => ?_, ?_, by simp; omega⟩
                · have h2 := (own_lt HT8.out.own (HTE.out ▸ e)).2
                  omega
                · omega⟩)
              have t9 := hTa.ob.grown g2 (fun e => by have h3 := (own_lt HT9.out.own e.symm).1; have := HT9.out.lt; omega)
              have c29 : wb.cell? ⟨Bo, 2, none⟩ = some (.slice sv T.length cv) := t9.cell rfl
              have f29 : wb.frozen? ⟨Bo, 2, none⟩ = false := t9.frozen 2
              have hri : RS.take (i + 1) = T ++ [⟨r.head, X⟩] := by
                rw [HRI.out, HTE.out, HXE.out, HBL.out]; rfl
              rw [← hri] at hpu
              have HPU := Lib.hid hpu; clear hpu t9 hTa g1 g2 g3 g4 HOW c2 c0 hri
              go_wp2
              go_roundw
              case rel => exact ⟨i + 1, by omega, by go_num, _, _, HPU.out⟩
              case measure => simp [vInt]; omega
            · have hX : turnB bl = bl.reverse := by unfold turnB; rw [if_neg (by omega)]
              obtain ⟨X, hXe⟩ : ∃ X, X = turnB bl := ⟨_, rfl⟩
              have eL : bl.length = X.length := by rw [hXe, hX]; simp
              have ho := HO.out
              rw [← hX, ← hXe] at ho
              rw [eL] at ho ⊢
              have hL16 : X.length ≤ 16 := by omega
              have hwz2 : (0 : Int) < X.length := by omega
              have hwz3 : ((X.length : Int) < 16) = False := eq_false (by omega)
              have hwz4 : (X.length < 16) = False := eq_false (by omega)
              have HXE := Lib.hid hXe; clear hXe hX eL hl0 hl16
              have HOX := Lib.hid ho; clear ho HO
              obtain ⟨wy, hwy⟩ : ∃ wy, wy = wr := ⟨_, rfl⟩
              rw [← hwy] at HOX HB9 ⊢
              clear hwy
              have hT9 := HT8.out.below HB9.out
              obtain ⟨sv, cv, rfl, _⟩ := own_slice hT9.own
              have hml : (RS.take i).length ≤ 64 := by rw [List.length_take]; omega
              obtain ⟨T, hTe⟩ : ∃ T, T = RS.take i := ⟨_, rfl⟩
              rw [← hTe] at hT9 hml
              have HTE := Lib.hid hTe; clear hTe
              have c2 : wy.cell? ⟨Bo, 2, none⟩ = some (.slice sv T.length cv) := hT9.ob.cell rfl
              have c0 : wy.cell? ⟨R, 0, none⟩ = some (.int .i64 r.head) := (HBK.out.below HB9.out HBK.out.lt).cell rfl
              have HOW := hT9.own.alloc (.cells #[.int .i64 r.head, .slice s9 X.length c9] 61)
              have hzs := hT9.size
              obtain ⟨i0, hi1, hi2, hi3, hi4⟩ := info_parts infoRule
              have HT9 := Lib.hid hT9; clear hT9
              go_wp2_with (refine wpList_append_lies _ rfl _ _ 23 rfl W0.heap.size 61 i0 (.agg #[.int .i64 0, .slice none 0 0]) 2 32 hTrule hi1 hi2 hi3 hi4 rfl (by decide) _ T.length _ rfl HOW ⟨wy.heap.size, 0, none⟩ 1 1 [.int .i64 r.head, .slice s9 X.length c9] rfl rfl (World.news_of_block (Blk.new wy #[.int .i64 r.head, .slice s9 X.length c9] 61)) (by intro u hu; simp at hu; rcases hu with hu | hu <;> (subst hu; rfl)) (by decide) (by unfold maxLen; omega) (by omega) (by simp; omega) _ rfl ?_)
              intro gg cap wb g1 g2 g3 g4
              rw [← sz0] at g1
              have hTa := HT9.out.below (alloc_below wy (.cells #[.int .i64 r.head, .slice s9 X.length c9] 61))
              have hz8 := HT8.out.size
              have hbo8 := HT8.out.ob.lt
              have hpu := hTa.push (r := ⟨r.head, X⟩) (sb := s9) (cb := c9) g2 g1 (by rw [World.size_alloc]; exact g3) (fun h0 => ⟨(Sl.of_owns HOX.out).below (alloc_below _ _), fun k hk => by
                have h1 := own_lt HOX.out hk
                refine ⟨fun e => ?_, ?_, by simp; omega⟩
                · have h2 := (own_lt HT8.out.own (HTE.out ▸ e)).2
                  omega
                · omega⟩)
              have t9 := hTa.ob.grown g2 (fun e => by have h3 := (own_lt HT9.out.own e.symm).1; have := HT9.out.lt; omega)
              have c29 : wb.cell? ⟨Bo, 2, none⟩ = some (.slice sv T.length cv) := t9.cell rfl
              have f29 : wb.frozen? ⟨Bo, 2, none⟩ = false := t9.frozen 2
              have hri : RS.take (i + 1) = T ++ [⟨r.head, X⟩] := by
                rw [HRI.out, HTE.out, HXE.out, HBL.out]; rfl
              rw [← hri] at hpu
              have HPU := Lib.hid hpu; clear hpu t9 hTa g1 g2 g3 g4 HOW c2 c0 hri
              go_wp2
              go_roundw
              case rel => exact ⟨i + 1, by omega, by go_num, _, _, HPU.out⟩
              case measure => simp [vInt]; omega
        · have hp1 : p' < bl.length := by omega
          have hp1' : (p' : Int) < bl.length := by omega
          obtain ⟨gb, ob, rfl, _, _, hCb, hlb⟩ := sl_at (HSZ.out (by omega)) (by omega)
          obtain ⟨x, hx⟩ : ∃ x, x = bl[p'] := ⟨_, rfl⟩
          have hb1 : Below W1.heap.size W1 wr := HBS.out.trans (hb9.mono HBS.out.size)
          have cx : wr.cell? ⟨gb, ob + p', none⟩ = some (.int .i64 x) := (hCb.below hb1 hlb) p' _ (by simp [hp1, hx])
          have htk : bl.reverse.take (q + 1) = bl.reverse.take q ++ [x] := by
            have h1 : q < bl.reverse.length := by simp; omega
            rw [List.take_succ_eq_append_getElem h1, List.getElem_reverse, hx]
            congr 3
            omega
          have HTK := Lib.hid htk; clear htk hx hCb hb1
          have HB9 := Lib.hid hb9; clear hb9
          have HOA := HO9.out.alloc (.cells #[.int .i64 x] 3)
          have hsz := HB9.out.size
          have hlq : q ≤ 16 := by omega
          go_wp2_with (refine wpList_append_sl rfl _ _ 22 rfl w8.heap.size 3 (.int .i64 0) 1 8 hTint infoInt rfl (by decide) _ q _ rfl HOA _ 1 [.int .i64 x] rfl (sl_new _ _ _ 1 rfl (by decide)) (by intro u hu; simp at hu; rw [hu]; rfl) (by unfold maxLen; omega) (by omega) (by simp; omega) ?_)
          intro v' wa g1 g2
          have hb8 : Below w8.heap.size w8 wa := grown_below (HB9.out.alloc hsz (.cells #[.int .i64 x] 3)) HOA g2 (by simp; omega)
          have HB8 := Lib.hid hb8; clear hb8
          have HG1 := Lib.hid g1; clear g1 g2 HOA
          go_wp2
          go_roundw
          case rel => exact ⟨p', q + 1, by omega, HSP.out p', by have h5 := HG1.out; rw [HTK.out, List.map_append]; simpa using h5, HB8.out⟩
          case measure => simp [vInt]
    · have hie : i = n := by omega
      have htk : RS.take i = RS := List.take_of_length_le (by rw [HRL.out]; omega)
      rw [htk] at hT
      have HT := Lib.hid hT; clear hT htk hie
      have hin' : ((i : Int) < n) = False := eq_false (by omega)
      have HBS := Lib.hid hbase; clear hbase
      by_cases hn0 : n = 0
      · have htl : turnLg b a 0 = ⟨b.facts, b.assume, RS⟩ := by
          unfold turnLg turnL
          rw [if_neg (by rw [← HN.out]; omega), List.append_nil, ← HRS.out]
        have hz0 : ((0 : Int) < n) = False := eq_false (by omega)
        have hz1 : (0 < n) = False := eq_false (by omega)
        have hab : (0 < n → a < n) ∧ (0 < n → 0 < n) := ⟨ha, fun h => h⟩
        have HTL := Lib.hid htl
        have HAB := Lib.hid hab
        clear htl hab hn0
        obtain ⟨wx, hwx⟩ : ∃ wx, wx = wr := ⟨_, rfl⟩
        rw [← hwx] at HT ⊢
        clear hwx
        have hTx := HT.out
        obtain ⟨sv, cv, rfl, _⟩ := own_slice hTx.own
        have o0 : wx.cell? ⟨Bo, 0, none⟩ = some (.int .i64 F) := hTx.ob.cell rfl
        have o1 : wx.cell? ⟨Bo, 1, none⟩ = some (.slice sa la ca) := hTx.ob.cell rfl
        have o2 : wx.cell? ⟨Bo, 2, none⟩ = some (.slice sv RS.length cv) := hTx.ob.cell rfl
        have hBoz := HBO.out
        have kx : Blk wx (w.heap.size + 1) [.int .i64 0, .slice none 0 0, .slice none 0 0] 25 := HKR.out.chg hTx.chg (by simp; omega)
        have hbx : Below W1.heap.size W1 wx := hTx.low HB0.out (by omega)
        have HKX := Lib.hid kx; clear kx
        have HBX := Lib.hid hbx; clear hbx hTx hBoz
        go_wp2_with (refine wpList_store_blk (ty := 25) (n := 3) (vs := [.int .i64 F, .slice sa la ca, .slice sv RS.length cv]) HKX.out rfl rfl rfl rfl rfl infoB rfl (by simp) (by intro u hu; simp at hu; rcases hu with hu | hu | hu <;> (subst hu; rfl)) ?_)
        intro wz q1 q2
        go_wp2
        refine bodyPost_ret (results_blk rfl q1 rfl rfl (by kernel_rfl) infoB) rfl ?_
        have hwz : Below W1.heap.size W1 wz := q2.below HBX.out (by omega)
        refine ⟨a, 0, sv, cv, bods, HAB.out.1, HAB.out.2, ?_, ?_, HBOX.out.below hwz⟩
        · rw [HTL.out]
          unfold lgV
          rw [← HF.out, ← HLA.out]
          first
            | rfl
            | (simp only [List.length_append]; rfl)
        · rw [HTL.out, ← HF.out]
          have ha1 := HH.out.asm.below hwz
          rw [← HLA.out] at ha1
          exact HT.out.base (K := w.heap.size + 1) (by have := HBO.out; omega) q2 (by rw [← HLA.out]; exact ha1) (by first | rfl | simp)
      · by_cases hn64 : n < 64
        · have hz0 : (0 : Int) < n := by omega
          have hz1 : (n : Int) < 64 := by omega
          have hz7 : rg (Int.tdiv z 7) := by
            unfold rg at hz ⊢
            by_cases h : 0 ≤ z
            · rw [Int.tdiv_eq_ediv_of_nonneg h]; omega
            · have e : Int.tdiv z 7 = -(Int.tdiv (-z) 7) := by rw [Int.neg_tdiv]; simp
              rw [e, Int.tdiv_eq_ediv_of_nonneg (by omega)]; omega
          obtain ⟨c, hc1, hc2⟩ := around_rg (Int.tdiv z 7) (show 0 < n by omega)
          have har := around_any (Int.tdiv z 7) n hz7 ⟨by omega, by omega⟩
          rw [hc1] at har
          have hcb : c < b.rules.length := by rw [← HN.out]; exact hc2
          obtain ⟨g, o, sb, cb, rfl, hrc, hsz⟩ := HH.out.rule hcb
          have hcn : (c : Int) < n := by omega
          obtain ⟨r, hr⟩ : ∃ r, r = b.rules[c] := ⟨_, rfl⟩
          rw [← hr] at hrc hsz
          have htl : turnLg b a c = ⟨b.facts, b.assume, RS ++ [r]⟩ := by
            unfold turnLg turnL
            rw [if_pos (by rw [← HN.out]; omega), ← HRS.out, getD_eq rl0 hcb, hr]
          have hab : (0 < n → a < n) ∧ (0 < n → c < n) := ⟨ha, fun _ => hc2⟩
          have HTL := Lib.hid htl
          have HAB := Lib.hid hab
          have HSZ := Lib.hid hsz
          have HAR := Lib.hid har
          have HRC := Lib.hid hrc
          have hw7 : IntKind.i64.wrap (Int.tdiv z 7) = Int.tdiv z 7 := by
            rw [IntKind.wrap_i64]
            unfold rg at hz7
            generalize Int.tdiv z 7 = t at hz7 ⊢
            omega
          have HW7 := Lib.hid hw7
          clear hw7
          have Z1 := Lib.hid z1
          clear z1
          clear htl hab hn0 hz7 hc1 hcb hr hsz har hrc
          obtain ⟨sv, cv, rfl, _⟩ := own_slice HT.out.own
          have eX : Below W1.heap.size W1 wr.drew ∧ wr.drew.cell? ⟨Bo, 2, none⟩ = some (.slice sv RS.length cv) := ⟨HBS.out.drew, HT.out.ob.cell rfl⟩
          have hrl : ∀ U, Below W1.heap.size W1 U → Cells U g (o + c * 2) [.int .i64 r.head, .slice sb r.body.length cb] := fun U hU => by
            obtain ⟨e1, e2⟩ := HRC.out U hU
            intro q u hq
            match q, hq with
            | 0, hq => simp at hq; subst hq; exact e1
            | 1, hq => simp at hq; subst hq; exact e2
          have HRL2 := Lib.hid hrl; clear hrl
          go_wp2
          haveI : Nonempty (SqC.Come fun U : World => Below W1.heap.size W1 U ∧ U.cell? ⟨Bo, 2, none⟩ = some (.slice sv RS.length cv)) := ⟨⟨_, eX⟩⟩
          refine SqC.wp_region_sqc 14 [7, 10, 11, 13] (fun U : World => Below W1.heap.size W1 U ∧ U.cell? ⟨Bo, 2, none⟩ = some (.slice sv RS.length cv)) (by kernel_rfl) (by kernel_rfl) (by kernel_rfl) eX ?_
          obtain ⟨wd, hwd⟩ : ∃ wd : World, wd = wr.drew := ⟨_, rfl⟩
          have hTd := HT.out.below (W' := wd) (by rw [hwd]; exact (Below.refl _ _).drew)
          rw [← hwd] at eX ⊢
          clear hwd HT
          have HT := Lib.hid hTd; clear hTd
          refine SqC.value (.pointer (some ⟨Bo, 2, none⟩)) rfl rfl (by intro U hU; go_simp) ?_
          simp only [Act.put, List.setIfInBounds_toArray, List.set_cons_zero, List.set_cons_succ]
          refine SqC.value (.slice sv RS.length cv) rfl rfl (by intro U hU; have cx := hU.2; go_simp) ?_
          simp only [Act.put, List.setIfInBounds_toArray, List.set_cons_zero, List.set_cons_succ]
          refine SqC.value (.pointer (some ⟨w.heap.size, 2, none⟩)) rfl rfl (by intro U hU; go_simp) ?_
          simp only [Act.put, List.setIfInBounds_toArray, List.set_cons_zero, List.set_cons_succ]
          refine SqC.value (.slice (some ⟨g, o, none⟩) n cr) rfl rfl (by intro U hU; have cx := (HC.out U hU.1).2.2; go_simp) ?_
          simp only [Act.put, List.setIfInBounds_toArray, List.set_cons_zero, List.set_cons_succ]
          iterate 1 (refine SqC.quiet rfl rfl ?_; go_big_quiet_step (fail); refine wpQuiet_nil ?_)
          refine SqC.value (.int .i64 (Int.tdiv z 7)) rfl rfl (by intro U hU; have h7 := HW7.out; go_simp) ?_
          simp only [Act.put, List.setIfInBounds_toArray, List.set_cons_zero, List.set_cons_succ]
          iterate 1 (refine SqC.quiet rfl rfl ?_; go_big_quiet_step (fail); refine wpQuiet_nil ?_)
          refine SqC.effect rfl rfl ?_
          refine yields_call rfl (by kernel_rfl) rfl rfl ((HAR.out wd).mono ?_)
          rintro e u1 ⟨rfl, h7⟩
          have h8 := h7.symm
          clear h7
          subst h8
          refine ⟨_, rfl, fun _ => eX, ?_⟩
          simp only [Act.put, List.setIfInBounds_toArray, List.set_cons_zero, List.set_cons_succ]
          refine SqC.value (.pointer (some ⟨g, o + c * 2, none⟩)) rfl rfl (by intro U hU; go_simp) ?_
          simp only [Act.put, List.setIfInBounds_toArray, List.set_cons_zero, List.set_cons_succ]
          refine SqC.value (.agg #[.int .i64 r.head, .slice sb r.body.length cb]) rfl rfl (by intro U hU; exact load_agg_exec rfl rfl (run_load_agg (P := Try.prog) (ty := 61) (HRL2.out U hU.1) aggR infoR)) ?_
          simp only [Act.put, List.setIfInBounds_toArray, List.set_cons_zero, List.set_cons_succ]
          obtain ⟨wb0, hwb⟩ : ∃ wb0, wb0 = wd.alloc (.cells #[.int .i64 r.head, .slice sb r.body.length cb] 61) := ⟨_, rfl⟩
          have hTb : TurnM 25 61 W0 wb0 Bo F (.slice sa la ca) RS bods (.slice sv RS.length cv) := by rw [hwb]; exact HT.out.below (alloc_below _ _)
          have hnew : Blk wb0 wd.heap.size [.int .i64 r.head, .slice sb r.body.length cb] 61 := by rw [hwb]; exact Blk.new wd #[.int .i64 r.head, .slice sb r.body.length cb] 61
          have zb : wb0.heap.size = wd.heap.size + 1 := by rw [hwb]; simp
          have ebx : Below W1.heap.size W1 wb0 ∧ wb0.cell? ⟨Bo, 2, none⟩ = some (.slice sv RS.length cv) := ⟨hTb.low HB0.out (by have := HBO.out; have := Z1.out; omega), hTb.ob.cell rfl⟩
          have HWB := Lib.hid hwb; clear hwb
          refine SqC.effectW rfl rfl ?_
          go_wp2
          rw [← HWB.out]
          refine SqC.here rfl (fun _ => ebx) ?_
          have HOW := hTb.own
          have hzs := hTb.size
          have hml : RS.length ≤ 64 := by rw [HRL.out]; omega
          obtain ⟨i0, hi1, hi2, hi3, hi4⟩ := info_parts infoRule
          refine SqC.effectW rfl rfl ?_
          refine wpList_append_lies _ rfl _ _ 23 rfl W0.heap.size 61 i0 (.agg #[.int .i64 0, .slice none 0 0]) 2 32 hTrule hi1 hi2 hi3 hi4 rfl (by decide) _ RS.length _ rfl HOW ⟨wd.heap.size, 0, none⟩ 1 1 [.int .i64 r.head, .slice sb r.body.length cb] rfl rfl (World.news_of_block hnew) (by intro u hu; simp at hu; rcases hu with hu | hu <;> (subst hu; rfl)) (by decide) (by unfold maxLen; omega) (by omega) hzs _ rfl ?_
          intro gg cap wb g1 g2 g3 g4
          have hpu := hTb.push (r := r) (sb := sb) (cb := cb) g2 g1 g3 (fun h0 => ⟨(HSZ.out h0).below ebx.1, fun k hk => by
            obtain ⟨_, ⟨_, h1⟩ | ⟨b', off, cap', e1, _, _, _, h2⟩⟩ := HSZ.out h0
            · omega
            · rw [e1] at hk
              have hk2 : some b' = some k := hk
              injection hk2 with hk2
              subst hk2
              have hzz := HBO.out
              have hz1' := Z1.out
              refine ⟨fun e => ?_, by omega, by omega⟩
              have h3 := (own_lt HOW e).1
              omega⟩)
          have t9 := hTb.ob.grown g2 (fun e => by have h3 := (own_lt HOW e.symm).1; have := hTb.lt; omega)
          have c29 : wb.cell? ⟨Bo, 2, none⟩ = some (.slice sv RS.length cv) := t9.cell rfl
          have f29 : wb.frozen? ⟨Bo, 2, none⟩ = false := t9.frozen 2
          have e29 : Below W1.heap.size W1 wb := ebx.1.grown g2 ebx.1.size fun k hk => by have h3 := (own_lt HOW hk).1; have := HBO.out; have := Z1.out; omega
          have HPU := Lib.hid hpu; clear hpu
          refine SqC.here rfl (fun _ => ⟨e29, c29⟩) ?_
          simp only [Act.put, List.setIfInBounds_toArray, List.set_cons_zero, List.set_cons_succ]
          refine SqC.value (.pointer (some ⟨Bo, 2, none⟩)) rfl rfl (by intro U hU; go_simp) ?_
          simp only [Act.put, List.setIfInBounds_toArray, List.set_cons_zero, List.set_cons_succ]
          clear t9 g1 g2 g3 g4 HOW hnew ebx eX e29 hTb HT
          refine SqC.effectW rfl rfl ?_
          go_wp2
          refine SqC.here rfl (by intro h; first | exact h.elim | exact absurd rfl h) (SqC.nil ?_)
          obtain ⟨wx, hwx⟩ : ∃ wx, wx = wb.setCell ⟨Bo, 2, none⟩ (.slice (some ⟨gg, 0, none⟩) (RS.length + 1) cap) := ⟨_, rfl⟩
          have hpx := HPU.out
          rw [← hwx] at hpx ⊢
          have HT := Lib.hid hpx; clear hpx hwx c29 f29 HPU
          have hTx := HT.out
          have o0 : wx.cell? ⟨Bo, 0, none⟩ = some (.int .i64 F) := hTx.ob.cell rfl
          have o1 : wx.cell? ⟨Bo, 1, none⟩ = some (.slice sa la ca) := hTx.ob.cell rfl
          have o2 : wx.cell? ⟨Bo, 2, none⟩ = some (.slice (some ⟨gg, 0, none⟩) (RS.length + 1) cap) := hTx.ob.cell rfl
          have hBoz := HBO.out
          have z1 := Z1.out
          have kx : Blk wx (w.heap.size + 1) [.int .i64 0, .slice none 0 0, .slice none 0 0] 25 := HKR.out.chg hTx.chg (by simp; omega)
          have hbx : Below W1.heap.size W1 wx := hTx.low HB0.out (by omega)
          have HKX := Lib.hid kx; clear kx
          have HBX := Lib.hid hbx; clear hbx hTx hBoz z1
          have Z2 := Z1
          go_wp2_with (refine wpList_store_blk (ty := 25) (n := 3) (vs := [.int .i64 F, .slice sa la ca, .slice (some ⟨gg, 0, none⟩) (RS.length + 1) cap]) HKX.out rfl rfl rfl rfl rfl infoB rfl (by simp) (by intro u hu; simp at hu; rcases hu with hu | hu | hu <;> (subst hu; rfl)) ?_)
          intro wz q1 q2
          go_wp2
          refine bodyPost_ret (results_blk rfl q1 rfl rfl (by kernel_rfl) infoB) rfl ?_
          have hwz : Below W1.heap.size W1 wz := q2.below HBX.out (by have := Z1.out; omega)
          refine ⟨a, c, (some ⟨gg, 0, none⟩), cap, bods ++ [.slice sb r.body.length cb], HAB.out.1, HAB.out.2, ?_, ?_, HBOX.out.below hwz⟩
          · rw [HTL.out]
            unfold lgV
            rw [← HF.out, ← HLA.out]
            first
              | rfl
              | (simp only [List.length_append]; rfl)
          · rw [HTL.out, ← HF.out]
            have ha1 := HH.out.asm.below hwz
            rw [← HLA.out] at ha1
            exact HT.out.base (K := w.heap.size + 1) (by have := HBO.out; omega) q2 (by rw [← HLA.out]; exact ha1) (by first | rfl | simp)
        · have htl : turnLg b a 0 = ⟨b.facts, b.assume, RS⟩ := by
            unfold turnLg turnL
            rw [if_neg (by rw [← HN.out]; omega), List.append_nil, ← HRS.out]
          have hz0 : (0 : Int) < n := by omega
          have hz1 : ((n : Int) < 64) = False := eq_false (by omega)
          have hz2 : (n < 64) = False := eq_false (by omega)
          have hab : (0 < n → a < n) ∧ (0 < n → 0 < n) := ⟨ha, fun h => h⟩
          have HTL := Lib.hid htl
          have HAB := Lib.hid hab
          clear htl hab hn0 hn64
          obtain ⟨wx, hwx⟩ : ∃ wx, wx = wr := ⟨_, rfl⟩
          rw [← hwx] at HT ⊢
          clear hwx
          have hTx := HT.out
          obtain ⟨sv, cv, rfl, _⟩ := own_slice hTx.own
          have o0 : wx.cell? ⟨Bo, 0, none⟩ = some (.int .i64 F) := hTx.ob.cell rfl
          have o1 : wx.cell? ⟨Bo, 1, none⟩ = some (.slice sa la ca) := hTx.ob.cell rfl
          have o2 : wx.cell? ⟨Bo, 2, none⟩ = some (.slice sv RS.length cv) := hTx.ob.cell rfl
          have hBoz := HBO.out
          have kx : Blk wx (w.heap.size + 1) [.int .i64 0, .slice none 0 0, .slice none 0 0] 25 := HKR.out.chg hTx.chg (by simp; omega)
          have hbx : Below W1.heap.size W1 wx := hTx.low HB0.out (by omega)
          have HKX := Lib.hid kx; clear kx
          have HBX := Lib.hid hbx; clear hbx hTx hBoz
          go_wp2_with (refine wpList_store_blk (ty := 25) (n := 3) (vs := [.int .i64 F, .slice sa la ca, .slice sv RS.length cv]) HKX.out rfl rfl rfl rfl rfl infoB rfl (by simp) (by intro u hu; simp at hu; rcases hu with hu | hu | hu <;> (subst hu; rfl)) ?_)
          intro wz q1 q2
          go_wp2
          refine bodyPost_ret (results_blk rfl q1 rfl rfl (by kernel_rfl) infoB) rfl ?_
          have hwz : Below W1.heap.size W1 wz := q2.below HBX.out (by omega)
          refine ⟨a, 0, sv, cv, bods, HAB.out.1, HAB.out.2, ?_, ?_, HBOX.out.below hwz⟩
          · rw [HTL.out]
            unfold lgV
            rw [← HF.out, ← HLA.out]
            first
              | rfl
              | (simp only [List.length_append]; rfl)
          · rw [HTL.out, ← HF.out]
            have ha1 := HH.out.asm.below hwz
            rw [← HLA.out] at ha1
            exact HT.out.base (K := w.heap.size + 1) (by have := HBO.out; omega) q2 (by rw [← HLA.out]; exact ha1) (by first | rfl | simp)
end Go.Proofs.Ytcbmifaobdamhaa
