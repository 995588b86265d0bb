/- The walk over HashOfSeparates, where the lists or tags differ. -/
import Derived.Test.YtcdgpkhfflehjaaDoorA26
import Derived.Deep.CutBlock
namespace Go.Proofs.YtcdgpkhfflehjaaDoor
open Go.RowKit Go.Sha Go.Own Go.BigFrame
attribute [local go_sem high] op_str_eql op_str_neq
attribute [local go_sem] str_size str_append
theorem beq_u8 (a b : UInt8) : ((a.toNat : Int) == (b.toNat : Int)) = decide (a = b) := by
  by_cases h : a = b
  · subst h; simp
  · have : ¬ (a.toNat : Int) = b.toNat := fun e => h (UInt8.toNat_inj.1 (by omega))
    simp [h, this]
theorem beq_nat (a b : Nat) : ((a : Int) == (b : Int)) = decide (a = b) := by
  by_cases h : a = b
  · subst h; simp
  · have : ¬ (a : Int) = b := by omega
    simp [h, this]
theorem eq44_run {o : Oper} {ρ : Operand → Value} {x y : Operand} {l r : List UInt8} {ty : TypeId} (ho : o.op = .binOp .eql 44 x y ty) (hx : ρ x = .agg (l.map byv).toArray) (hy : ρ y = .agg (r.map byv).toArray) (hl : l.length = 16) (hr : r.length = 16) (w : World) :
    (execOp ρ o).run Tryd.prog w = .ok (.value (.bool (l == r))) w := by
  unfold execOp
  simp only [ho, hx, hy, Sem.run_bind, Sem.run_pure, Result.andThen_ok, guard44, eql44 w l r hl hr]
set_option maxHeartbeats 1600000 in
set_option maxRecDepth 100000 in
theorem sepDiff_any (t0 t1 : UInt8) (la lb : List (List UInt8)) (sa : Option Addr) (ca : Nat) (sb : Option Addr) (cb : Nat) (w : World) (hsa : Sl w 1 (.slice sa la.length ca) la.length (la.map str)) (hsb : Sl w 1 (.slice sb lb.length cb) lb.length (lb.map str))
    (hla : la.length ≤ maxLen) (hlb : lb.length ≤ maxLen) (hlsa : ∀ s ∈ la, s.length ≤ maxLen) (hlsb : ∀ s ∈ lb, s.length ≤ maxLen) (hfa : fewB la = true) (hfb : fewB lb = true) (hd : ¬ (t0 = t1 ∧ la = lb)) (hK1 : Cells w 1 0 (Kt.map U)) (h1 : 1 < w.heap.size) :
    Calls Tryd.prog 8 #[.agg #[byv t0, byv t1], .slice sa la.length ca, .slice sb lb.length cb] w fun e w' => e = .returned (.bool true) ∧ Below w.heap.size w w' := by
  have HK1 := Lib.hid hK1; clear hK1
  have HSA := Lib.hid hsa; clear hsa
  have HSB := Lib.hid hsb; clear hsb
  have ca0 := fun W hs => few_any la sa ca W hs hla hlsa
  have cb0 := fun W hs => few_any lb sb cb W hs hlb hlsb
  obtain ⟨ha12, hpa⟩ := few_true hfa
  obtain ⟨hb12, hpb⟩ := few_true hfb
  rw [hfa] at ca0
  rw [hfb] at cb0
  have HFA := Lib.hid ca0
  have HFB := Lib.hid cb0
  have hpa0 : ∀ p ∈ la, p.length < 65536 := fun p h => by have := hpa p h; omega
  have hpb0 : ∀ p ∈ lb, p.length < 65536 := fun p h => by have := hpb p h; omega
  have HPA := Lib.hid hpa0
  have HPB := Lib.hid hpb0
  have HD := Lib.hid hd
  clear ca0 cb0 hfa hfb hlsa hlsb hpa0 hpb0 hpa hpb hd
  have htl := t0.toNat_lt
  have htl1 := t1.toNat_lt
  obtain ⟨W, HW⟩ : ∃ W, Hid (W = w.alloc (.cells #[byv t0, byv t1] 48)) := ⟨_, rfl⟩
  have hG0 : Blk W w.heap.size [byv t0, byv t1] 48 := by rw [HW.out]; exact Blk.new _ _ _
  have hbW : Below w.heap.size w W := by rw [HW.out]; exact (Below.refl _ _).alloc (Nat.le_refl _) _
  have hzW := hbW.size
  have hltG := hG0.lt
  go_enter Tryd.func8, Tryd.ntmps8
  go_upto_region 1 with (fail)
  rw [← HW.out]
  go_wp2_with fail
  refine (sanity_any W (HK1.out.below hbW h1) (by omega)).mono ?_
  rintro e w1 ⟨rfl, hb1⟩
  have hz1 := hb1.size
  have hbw1 := hbW.trans (hb1.mono hzW)
  go_wp2_with fail
  refine (HFA.out w1 (HSA.out.below hbw1)).mono ?_
  rintro e wx ⟨rfl, hwx⟩
  obtain rfl : w1 = wx := hwx.symm
  clear hwx
  go_wp2_with fail
  refine (HFB.out w1 (HSB.out.below hbw1)).mono ?_
  rintro e wx ⟨rfl, hwx⟩
  obtain rfl : w1 = wx := hwx.symm
  clear hwx
  have hG1 := hG0.below hb1 hltG
  have hltG1 := hG1.lt
  obtain ⟨S0, HS0⟩ : ∃ S0 : Bool, Hid (S0 = (decide (t0 = t1) && decide (la.length = lb.length))) := ⟨_, rfl⟩
  go_upto_region 4 with (fail)
  go_cut [8] (fun v8 wr => v8 = .bool S0 ∧ wr = w1)
  case first =>
    have c0 := hG1.cell (i := 0) rfl
    have c1 := hG1.cell (i := 1) rfl
    have e1 := beq_u8 t0 t1
    have e2 := beq_nat la.length lb.length
    by_cases ht : t0 = t1
    · have e1' : ((t0.toNat : Int) == (t1.toNat : Int)) = true := by rw [e1]; simp [ht]
      have hs : S0 = decide (la.length = lb.length) := by rw [HS0.out]; simp [ht]
      have HS := Lib.hid hs
      clear e1 hs ht
      by_cases hn : la.length = lb.length
      · have e2' : ((la.length : Int) == (lb.length : Int)) = true := by rw [e2]; simp [hn]
        have HN := Lib.hid hn
        clear e2 hn
        go_wp2
        go_meet
        case rel => exact ⟨by rw [HS.out]; simp [HN.out], rfl⟩
      · have e2' : ((la.length : Int) == (lb.length : Int)) = false := by rw [e2]; simp [hn]
        have HN := Lib.hid hn
        clear e2 hn
        go_wp2
        go_meet
        case rel => exact ⟨by rw [HS.out]; simp [HN.out], rfl⟩
    · have e1' : ((t0.toNat : Int) == (t1.toNat : Int)) = false := by rw [e1]; simp [ht]
      have hs : S0 = false := by rw [HS0.out]; simp [ht]
      have HS := Lib.hid hs
      clear e1 e2 hs ht
      go_wp2
      go_meet
      case rel => exact ⟨by rw [HS.out], rfl⟩
  case rest =>
    obtain ⟨rfl, hwc⟩ := hcut
    obtain rfl : w1 = wc := hwc.symm
    clear hwc
    go_upto_block 0 with (fail)
    go_cut [8] (fun v8 wr => v8 = .bool false ∧ Below w1.heap.size w1 wr)
    case first =>
      go_wp2
      go_loopw [8, 9] (fun v8 c wr => ∃ (i : Nat) (s : Bool), i ≤ la.length ∧ c = .int .i64 i ∧ v8 = .bool s ∧ Hid (s = (S0 && decide (la.take i = lb.take i))) ∧ Below w1.heap.size w1 wr) (fun _ c _ => la.length - (intOf c).toNat)
      case atStart => exact ⟨0, S0, by omega, rfl, rfl, by show _ = _; simp, Below.refl _ _⟩
      case round =>
        obtain ⟨i, s, hi, rfl, rfl, Hs, hb⟩ := hrel
        cases s with
        | false =>
          by_cases hil : i < la.length
          · go_wp2
            go_meet
            case rel => exact ⟨rfl, hb⟩
          · go_wp2
            go_meet
            case rel => exact ⟨rfl, hb⟩
        | true =>
          have hs := Hs.out
          have hS : S0 = true ∧ la.take i = lb.take i := by simpa using hs.symm
          have hS2 : t0 = t1 ∧ la.length = lb.length := by have := HS0.out; rw [hS.1] at this; simpa using this.symm
          by_cases hil : i < la.length
          · have hbr := hbw1.trans (hb.mono (by omega))
            have hilb : i < lb.length := by omega
            obtain ⟨b0, off, rfl, hc1, hc2, hC0, hlt0⟩ := sl_cases HSA.out (by omega)
            obtain ⟨b1, off1, rfl, hd1, hd2, hD0, hlt1⟩ := sl_cases HSB.out (by omega)
            obtain ⟨p, Hp⟩ : ∃ p, Hid (p = la.getD i []) := ⟨_, rfl⟩
            obtain ⟨q, Hq⟩ : ∃ q, Hid (q = lb.getD i []) := ⟨_, rfl⟩
            have cx : wr.cell? ⟨b0, off + i, none⟩ = some (str p) := (hC0.below hbr hlt0) i (str p) (by rw [Hp.out]; simp [hil])
            have cy : wr.cell? ⟨b1, off1 + i, none⟩ = some (str q) := (hD0.below hbr hlt1) i (str q) (by rw [Hq.out]; simp [hilb])
            have HS := Lib.hid hS
            have HS2 := Lib.hid hS2
            clear hC0 hD0 hs hS hS2
            go_wp2
            go_quiet (fail)
            go_wp2
            go_roundw
            case rel =>
              refine ⟨i + 1, (p == q), by omega, by go_num, rfl, ?_, below_drewN hb _⟩
              show _ = _
              have ep : la[i] = p := by rw [Hp.out]; simp [hil]
              have eq : lb[i] = q := by rw [Hq.out]; simp [hilb]
              rw [HS.out.1, List.take_succ_eq_append_getElem hil, List.take_succ_eq_append_getElem hilb, HS.out.2, ep, eq]
              by_cases hpq : p = q <;> simp [hpq]
            case measure => simp [intOf]; omega
          · exfalso
            obtain rfl : i = la.length := by omega
            have h2 := hS.2
            rw [List.take_length, hS2.2, List.take_length] at h2
            exact HD.out ⟨hS2.1, h2⟩
    case rest =>
      obtain ⟨rfl, hb⟩ := hcut
      have hbr := hbw1.trans (hb.mono (by omega))
      have hzr := hb.size
      have hG := hG1.below hb hltG1
      have hltG2 := hG.lt
      have c0 := hG.cell (i := 0) rfl
      have c1 := hG.cell (i := 1) rfl
      have i1 := input_any (t0.toNat : Int) la HPA.out (by omega) sa ca wc (HSA.out.below hbr)
      obtain ⟨X, HX⟩ : ∃ X, Hid (X = inputF (t0.toNat : Int) la) := ⟨_, rfl⟩
      obtain ⟨Y, HY⟩ : ∃ Y, Hid (Y = inputF (t1.toNat : Int) lb) := ⟨_, rfl⟩
      have hXY : ¬ X = Y := fun h => HD.out (inputF_inj t0 t1 la lb HPA.out HPB.out (by rw [← HX.out, ← HY.out]; exact h))
      have hXl : X.length ≤ 10000000 := by
        have := flat_len la HPA.out
        rw [HX.out, inputF, List.length_cons]
        have := Nat.mul_le_mul_left 65539 ha12
        omega
      have hYl : Y.length ≤ 10000000 := by
        have := flat_len lb HPB.out
        rw [HY.out, inputF, List.length_cons]
        have := Nat.mul_le_mul_left 65539 hb12
        omega
      rw [← HX.out] at i1
      have I1 := Lib.hid i1
      have HXY := Lib.hid hXY
      clear i1 hXY
      go_wp2_with fail
      refine I1.out.mono ?_
      rintro e w2 ⟨v1, rfl, how1, hb2⟩
      have hz2 := hb2.size
      have hb02 := hbr.trans (hb2.mono (by omega))
      have hG2 := hG.below hb2 hltG2
      have d1 := hG2.cell (i := 1) rfl
      have hsl1 := Sl.of_owns how1
      have i2 := input_any (t1.toNat : Int) lb HPB.out (by omega) sb cb w2 (HSB.out.below hb02)
      rw [← HY.out] at i2
      have I2 := Lib.hid i2
      clear i2 how1 c0 c1
      go_wp2_with fail
      refine I2.out.mono ?_
      rintro e w3 ⟨v2, rfl, how2, hb3⟩
      have hz3 := hb3.size
      have hbw3 := hb02.trans (hb3.mono (by omega))
      have hsx3 := hsl1.below hb3
      have hsy3 := Sl.of_owns how2
      have hG3 := hG2.below hb3 (by omega)
      obtain ⟨s1, cc1, rfl⟩ := sl_slice hsx3
      obtain ⟨s2, cc2, rfl⟩ := sl_slice hsy3
      have hlo : ∀ t l, ((ofF t l).map byv).length = 16 := fun t l => by simp [ofF, sha_length]
      have hls : ∀ m : List UInt8, ((sha m).map byv).length = 32 := fun m => by simp [sha_length]
      have Hlo := Lib.hid hlo
      have Hls := Lib.hid hls
      have hltw3 : w.heap.size < w3.heap.size := hG3.lt
      clear how2 hsl1 d1 hlo hls hb hb2 hb3 hbr hb02 hG hG2 hG1 hG0 hltG hltG1 hltG2 hb1 hbW hbw1 I1 I2
      have c0 := hG3.cell (i := 0) rfl
      have c1 := hG3.cell (i := 1) rfl
      go_wp2_with fail
      refine (of_any (t0.toNat : Int) la HPA.out (by omega) (.slice sa la.length ca) w3 (HSA.out.below hbw3) (HK1.out.below hbw3 h1) (by have := hbw3.size; omega)).mono ?_
      rintro e w4 ⟨rfl, hbA⟩
      have hzA := hbA.size
      have hsn := Hlo.out (t0.toNat : Int) la
      go_wp2_with (refine wpList_store_blk (ty := 44) (n := 16) (vs := (ofF (t0.toNat : Int) la).map byv) (Blk.new _ _ 44) rfl rfl rfl rfl rfl (by kernel_rfl) hsn (by simp) (bytes_oneCell _) ?_)
      intro w5 hbB hoB
      have hD : Blk w5 w4.heap.size ((ofF (t0.toNat : Int) la).map byv) 44 := hbB
      have hx : Below w3.heap.size w3 w5 := hoB.below (hbA.alloc (by omega) _) (by omega)
      have hzB := hx.size
      have hzp := hbw3.size
      have hbw5 := hbw3.trans (hx.mono (by omega))
      have hG3' := hG3.below hx hG3.lt
      clear hG3
      have hG3 := hG3'
      clear hG3'
      have hsx3' := hsx3.below hx
      clear hsx3
      have hsx3 := hsx3'
      clear hsx3'
      have hsy3' := hsy3.below hx
      clear hsy3
      have hsy3 := hsy3'
      clear hsy3'
      have hzw5 : w4.heap.size < w5.heap.size := hD.lt
      clear hbB hoB hbA hx hsn hbw3 hzA hzB hzp
      clear c0 c1
      have c1 := hG3.cell (i := 1) rfl
      go_wp2_with fail
      refine (of_any (t1.toNat : Int) lb HPB.out (by omega) (.slice sb lb.length cb) w5 (HSB.out.below hbw5) (HK1.out.below hbw5 h1) (by have := hbw5.size; omega)).mono ?_
      rintro e w6 ⟨rfl, hbA⟩
      have hzA := hbA.size
      have hsn := Hlo.out (t1.toNat : Int) lb
      go_wp2_with (refine wpList_store_blk (ty := 44) (n := 16) (vs := (ofF (t1.toNat : Int) lb).map byv) (Blk.new _ _ 44) rfl rfl rfl rfl rfl (by kernel_rfl) hsn (by simp) (bytes_oneCell _) ?_)
      intro w7 hbB hoB
      have hE : Blk w7 w6.heap.size ((ofF (t1.toNat : Int) lb).map byv) 44 := hbB
      have hx : Below w5.heap.size w5 w7 := hoB.below (hbA.alloc (by omega) _) (by omega)
      have hzB := hx.size
      have hzp := hbw5.size
      have hbw7 := hbw5.trans (hx.mono (by omega))
      have hD' := hD.below hx hD.lt
      clear hD
      have hD := hD'
      clear hD'
      have hsx3' := hsx3.below hx
      clear hsx3
      have hsx3 := hsx3'
      clear hsx3'
      have hsy3' := hsy3.below hx
      clear hsy3
      have hsy3 := hsy3'
      clear hsy3'
      have hzw7 : w6.heap.size < w7.heap.size := hE.lt
      clear hbB hoB hbA hx hsn hbw5 hzA hzB hzp
      clear c1 hG3
      go_wp2_with fail
      refine (hsum_any X s1 cc1 w7 hsx3 (by omega) (HK1.out.below hbw7 h1) (by have := hbw7.size; omega)).mono ?_
      rintro e w8 ⟨rfl, hbA⟩
      have hzA := hbA.size
      have hsn := Hls.out X
      go_wp2_with (refine wpList_store_blk (ty := 24) (n := 32) (vs := (sha X).map byv) (Blk.new _ _ 24) rfl rfl rfl rfl rfl (by kernel_rfl) hsn (by simp) (bytes_oneCell _) ?_)
      intro w9 hbB hoB
      have hP : Blk w9 w8.heap.size ((sha X).map byv) 24 := hbB
      have hx : Below w7.heap.size w7 w9 := hoB.below (hbA.alloc (by omega) _) (by omega)
      have hzB := hx.size
      have hzp := hbw7.size
      have hbw9 := hbw7.trans (hx.mono (by omega))
      have hD' := hD.below hx hD.lt
      clear hD
      have hD := hD'
      clear hD'
      have hE' := hE.below hx hE.lt
      clear hE
      have hE := hE'
      clear hE'
      have hsx3' := hsx3.below hx
      clear hsx3
      have hsx3 := hsx3'
      clear hsx3'
      have hsy3' := hsy3.below hx
      clear hsy3
      have hsy3 := hsy3'
      clear hsy3'
      have hzw9 : w8.heap.size < w9.heap.size := hP.lt
      clear hbB hoB hbA hx hsn hbw7 hzA hzB hzp
      go_wp2_with fail
      refine (hsum_any Y s2 cc2 w9 hsy3 (by omega) (HK1.out.below hbw9 h1) (by have := hbw9.size; omega)).mono ?_
      rintro e w10 ⟨rfl, hbA⟩
      have hzA := hbA.size
      have hsn := Hls.out Y
      go_wp2_with (refine wpList_store_blk (ty := 24) (n := 32) (vs := (sha Y).map byv) (Blk.new _ _ 24) rfl rfl rfl rfl rfl (by kernel_rfl) hsn (by simp) (bytes_oneCell _) ?_)
      intro w11 hbB hoB
      have hQ : Blk w11 w10.heap.size ((sha Y).map byv) 24 := hbB
      have hx : Below w9.heap.size w9 w11 := hoB.below (hbA.alloc (by omega) _) (by omega)
      have hzB := hx.size
      have hzp := hbw9.size
      have hbw11 := hbw9.trans (hx.mono (by omega))
      have hD' := hD.below hx hD.lt
      clear hD
      have hD := hD'
      clear hD'
      have hE' := hE.below hx hE.lt
      clear hE
      have hE := hE'
      clear hE'
      have hP' := hP.below hx hP.lt
      clear hP
      have hP := hP'
      clear hP'
      have hsx3' := hsx3.below hx
      clear hsx3
      have hsx3 := hsx3'
      clear hsx3'
      have hsy3' := hsy3.below hx
      clear hsy3
      have hsy3 := hsy3'
      clear hsy3'
      have hzw11 : w10.heap.size < w11.heap.size := hQ.lt
      clear hbB hoB hbA hx hsn hbw9 hzA hzB hzp
      obtain ⟨S, HS⟩ : ∃ S, Hid (S = sha X) := ⟨_, rfl⟩
      obtain ⟨T, HT⟩ : ∃ T, Hid (T = sha Y) := ⟨_, rfl⟩
      have hSl : S.length = 32 := by rw [HS.out, sha_length]
      have hTl : T.length = 32 := by rw [HT.out, sha_length]
      rw [← HS.out] at hP ⊢
      rw [← HT.out] at hQ ⊢
      have hltP := hP.lt
      have hltQ := hQ.lt
      go_wp2
      go_loopw [16, 17] (fun v16 c wr => ∃ (i : Nat) (s : Bool), i ≤ 16 ∧ c = .int .i64 i ∧ v16 = .bool s ∧ Hid (s = decide (S.take i = T.take i)) ∧ Below w11.heap.size w11 wr) (fun _ c _ => 16 - (intOf c).toNat)
      case atStart => exact ⟨0, true, by omega, rfl, rfl, by show _ = _; simp, Below.refl _ _⟩
      case round =>
        obtain ⟨i, s, hi, rfl, rfl, Hs, hb⟩ := hrel
        by_cases hi16 : i < 16
        · obtain ⟨x, Hx⟩ : ∃ x, Hid (x = S.getD i 0) := ⟨_, rfl⟩
          obtain ⟨y, Hy⟩ : ∃ y, Hid (y = T.getD i 0) := ⟨_, rfl⟩
          have cx : wr.cell? ⟨w8.heap.size, i, none⟩ = some (byv x) := (hP.below hb hltP).cell (by rw [Hx.out]; simp [show i < S.length by omega])
          have cy : wr.cell? ⟨w10.heap.size, i, none⟩ = some (byv y) := (hQ.below hb hltQ).cell (by rw [Hy.out]; simp [show i < T.length by omega])
          have ex : S.take (i + 1) = S.take i ++ [x] := by rw [List.take_succ_eq_append_getElem (show i < S.length by omega), Hx.out]; simp [show i < S.length by omega]
          have ey : T.take (i + 1) = T.take i ++ [y] := by rw [List.take_succ_eq_append_getElem (show i < T.length by omega), Hy.out]; simp [show i < T.length by omega]
          have Ex := Lib.hid ex
          have Ey := Lib.hid ey
          have hlen : (S.take i).length = (T.take i).length := by simp; omega
          have Hlen := Lib.hid hlen
          clear ex ey hlen
          cases s with
          | true =>
            have hxy := beq_u8 x y
            have Hxy := Lib.hid hxy
            clear hxy
            go_wp2
            go_quiet (fail)
            go_wp2
            go_roundw
            case rel =>
              refine ⟨i + 1, ((x.toNat : Int) == (y.toNat : Int)), by omega, by go_num, rfl, ?_, below_drewN hb _⟩
              show _ = _
              rw [Hxy.out, Ex.out, Ey.out]
              have h2 : S.take i = T.take i := by simpa using Hs.out.symm
              rw [h2]
              by_cases hxy : x = y <;> simp [hxy]
            case measure => simp [intOf]; omega
          | false =>
            go_wp2
            go_quiet (fail)
            go_wp2
            go_roundw
            case rel =>
              refine ⟨i + 1, false, by omega, by go_num, rfl, ?_, below_drewN hb _⟩
              show _ = _
              have h2 : ¬ S.take i = T.take i := by simpa using Hs.out.symm
              rw [Ex.out, Ey.out]
              have h3 : ¬ (S.take i ++ [x] = T.take i ++ [y]) := fun h => h2 (List.append_inj h Hlen.out).1
              simp [h3]
            case measure => simp [intOf]; omega
        · obtain rfl : i = 16 := by omega
          have hDr := hD.below hb hD.lt
          have hEr := hE.below hb hE.lt
          have hXs := hsx3.below hb
          have hYs := hsy3.below hb
          have hcx : ∀ s : Grown ExtB wr, (convert 22 9 (.slice s1 X.length cc1)).run Tryd.prog s.1 = .ok (str X) s.1 := fun s => conv22 s.1 _ X (hXs.below s.2)
          have hcy : ∀ s : Grown ExtB wr, (convert 22 9 (.slice s2 Y.length cc2)).run Tryd.prog s.1 = .ok (str Y) s.1 := fun s => conv22 s.1 _ Y (hYs.below s.2)
          have hne : (X == Y) = false := beq_eq_false_iff_ne.2 HXY.out
          have hde : ((ofF (t0.toNat : Int) la) == (ofF (t1.toNat : Int) lb)) = s := by
            rw [Hs.out, ofF, ofF, ← HX.out, ← HY.out, ← HS.out, ← HT.out]
            by_cases h : S.take 16 = T.take 16 <;> simp [h]
          have hl1 : (ofF (t0.toNat : Int) la).length = 16 := by have := Hlo.out (t0.toNat : Int) la; simpa using this
          have hl2 : (ofF (t1.toNat : Int) lb).length = 16 := by have := Hlo.out (t1.toNat : Int) lb; simpa using this
          have Hde := Lib.hid hde
          have Hl1 := Lib.hid hl1
          have Hl2 := Lib.hid hl2
          have hss : (s == s) = true := beq_self_eq_true _
          have hsz11 := hbw11.size
          clear hde hl1 hl2 hXs hYs hD hE hP hQ hsx3 hsy3 hltP hltQ hSl hTl
          go_upto_region 22 with (fail)
          refine wp_region_spB 16 [9, 10, 11] (fun i v W => match i with
            | 9 => v = .agg ((ofF (t0.toNat : Int) la).map byv).toArray
            | 10 => v = .agg ((ofF (t1.toNat : Int) lb).map byv).toArray
            | 11 => v = .bool s
            | _ => True) (by kernel_rfl) ?stable ?main
          case stable =>
            intro i v W W' h hb
            match i, h with
            | 0, h => exact h
            | 1, h => exact h
            | 2, h => exact h
            | 3, h => exact h
            | 4, h => exact h
            | 5, h => exact h
            | 6, h => exact h
            | 7, h => exact h
            | 8, h => exact h
            | 9, h => exact h
            | 10, h => exact h
            | 11, h => exact h
            | _ + 12, _ => exact trivial
          case main =>
            simp only [List.take_succ_cons, List.take_zero, List.drop_succ_cons, List.drop_zero]
            repeat (refine sqw_quiet rfl rfl (ExtB.refl _) ?_; go_big_quiet_step (fail); refine wpQuiet_nil ?_)
            refine sqw_postY rfl rfl rfl ?_ ?_
            · intro W1 hb hf
              have hC := (hDr.below hb hDr.lt).cells0
              exact yields_load (n := 16) rfl hC rfl Tryd.underlying44 rfl (by kernel_rfl) (by simp [Hl1.out]) ⟨rfl, ExtB.refl _⟩
            intro v Wj hv
            obtain rfl : v = .agg ((ofF (t0.toNat : Int) la).map byv).toArray := hv
            simp only [Act.put, List.setIfInBounds_toArray, List.set_cons_zero, List.set_cons_succ]
            repeat (refine sqw_quiet rfl rfl (ExtB.refl _) ?_; go_big_quiet_step (fail); refine wpQuiet_nil ?_)
            refine sqw_postY rfl rfl rfl ?_ ?_
            · intro W1 hb hf
              have hC := (hEr.below hb hEr.lt).cells0
              exact yields_load (n := 16) rfl hC rfl Tryd.underlying44 rfl (by kernel_rfl) (by simp [Hl2.out]) ⟨rfl, ExtB.refl _⟩
            intro v Wj hv
            obtain rfl : v = .agg ((ofF (t1.toNat : Int) lb).map byv).toArray := hv
            simp only [Act.put, List.setIfInBounds_toArray, List.set_cons_zero, List.set_cons_succ]
            repeat (refine sqw_quiet rfl rfl (ExtB.refl _) ?_; go_big_quiet_step (fail); refine wpQuiet_nil ?_)
            refine sqw_postY rfl rfl rfl ?_ ?_
            · intro W1 hb hf
              refine yields_value (v := .bool s) (w' := W1) ?_ ⟨rfl, ExtB.refl _⟩
              rw [← Hde.out]
              exact eq44_run rfl rfl rfl Hl1.out Hl2.out W1
            intro v Wj hv
            obtain rfl : v = .bool s := hv
            simp only [Act.put, List.setIfInBounds_toArray, List.set_cons_zero, List.set_cons_succ]
            repeat (refine sqw_quiet rfl rfl (ExtB.refl _) ?_; go_big_quiet_step (fail); refine wpQuiet_nil ?_)
            intro w12 hb12 _
            refine wpList_nil ?_
            go_wp2
            go_ret
            exact ⟨by simp, (hbw11.trans (hb.mono hsz11)).trans (Below.mono hb12 (by have := hb.size; omega))⟩
end Go.Proofs.YtcdgpkhfflehjaaDoor
