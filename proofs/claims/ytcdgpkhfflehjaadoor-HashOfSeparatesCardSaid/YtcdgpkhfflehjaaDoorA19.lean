/- The walks over the reference's padKey and Mac. -/
import Derived.Test.YtcdgpkhfflehjaaDoorA18
namespace Go.Proofs.YtcdgpkhfflehjaaDoor
open Go.RowKit Go.Sha Go.Own
attribute [local go_sem high] op_str_eql op_str_neq
attribute [local go_sem] str_size
/-- '[]byte(s)', for the walk. -/
theorem wpList_str_bytes {P : Program} {w : World} {ops : Array Oper} {rest : List Oper} {o : Oper} {a : Act} {Q : Exit → Act → World → Prop} {src dst e : TypeId} {x : Operand} {bs : List UInt8} (hgd : o.guard = none) (ho : o.op = .convert src dst x) (hx : a.eval x = str bs)
    (hs : P.underlying src = some .string) (hd : P.underlying dst = some (.slice e)) (he : P.underlying e = some (.int .u8)) (hm : bs.length ≤ 140737488355328)
    (h : ∀ sa cap w', Sl w' 1 (.slice sa bs.length cap) bs.length (bs.map byv) → Below w.heap.size w w' → wpList P ops Q rest (a.put o.dst (.slice sa bs.length cap)) w') : wpList P ops Q (o :: rest) a w :=
  wpList_plain hgd fun _ hK => by
    obtain ⟨v, w', h1, h2, h3, _⟩ := run_str_bytes (P := P) (w := w) hs hd he bs hm
    obtain ⟨sa, cap, rfl⟩ := sl_slice h2
    unfold Oper.wp execOp
    simp only [ho, hx, Sem.run_bind, h1, Sem.run_pure, Result.andThen_ok]
    exact hK _ _ (h sa cap w' h2 h3)
set_option maxHeartbeats 400000 in
theorem padKey_any (k : List UInt8) (hk : k.length ≤ 100000) (b : UInt8) (w : World) (hK : Cells w 0 0 (Kt.map U)) (h0 : 0 < w.heap.size) :
    Calls Tryd.prog 32 #[str k, byv b] w fun e w' => ∃ v, e = .returned v ∧ w'.ownsRow w.heap.size 5 1 v 64 ((xorB b (pad64 (macKey k))).map byv) ∧ Below w.heap.size w w' := by
  have HK := Lib.hid hK; clear hK
  go_enter Tryd.func32, Tryd.ntmps32
  go_upto_if 12 with fail
  go_cut [5] (fun v5 wr => v5 = str (macKey k) ∧ Below w.heap.size w wr)
  case first =>
    by_cases hk64 : 64 < k.length
    · have ek : macKey k = sha k := by simp [macKey, hk64]
      go_wp2_with (refine wpList_str_bytes (bs := k) rfl rfl rfl Tryd.underlying9 Tryd.underlying22 Tryd.underlying5 (by omega) ?_)
      intro sa cap w1 hsl hb1
      have hz1 := hb1.size
      go_wp2_with (first | (go_at_call 12; refine (rsum_any k sa cap w1 hsl (by omega) (HK.out.below hb1 h0) (by omega)).mono ?_; rintro e w2 ⟨rfl, hb2⟩) | (go_at_call 20; refine (bytes32_any (sha k) (sha_length k) w2).mono ?_; rintro e w3 ⟨rfl, hb3⟩))
      go_meet
      case rel => rw [ek]; exact ⟨rfl, (hb1.trans (hb2.mono hz1)).trans (hb3.mono (by have := hb2.size; omega))⟩
    · have ek : macKey k = k := by simp [macKey, hk64]
      go_wp2
      go_meet
      case rel => rw [ek]; exact ⟨rfl, Below.refl _ _⟩
  case rest =>
    obtain ⟨rfl, hbw⟩ := hcut
    have hz := hbw.size
    obtain ⟨P, HP⟩ : ∃ P, Hid (P = macKey k) := ⟨_, rfl⟩
    have hP : P.length ≤ 64 := by rw [HP.out]; exact macKey_len k
    rw [← HP.out]
    have hPl : (pad64 P).length = 64 := by simp [pad64]; omega
    have HPl := Lib.hid hPl; clear hPl
    go_wp2
    go_loopw [8, 6, 7] (fun _ v c wr => ∃ i : Nat, i ≤ 64 ∧ c = .int .i64 i ∧ wr.ownsRow w.heap.size 5 1 v i ((xorB b ((pad64 P).take i)).map byv) ∧ Below w.heap.size w wr) (fun _ _ c _ => 64 - (intOf c).toNat)
    case atStart => exact ⟨0, by omega, rfl, by simpa [xorB] using World.ownsRow_nil _ _ _ _, hbw⟩
    case round =>
      obtain ⟨i, hi, rfl, how, hb⟩ := hrel
      have hzr := hb.size
      by_cases hi64 : i < 64
      · obtain ⟨x, Hx⟩ : ∃ x, Hid (x = (pad64 P).getD i 0) := ⟨_, rfl⟩
        have hx := u8_xor_nat x.toNat b.toNat x.toNat_lt b.toNat_lt
        rw [← UInt8.toNat_xor] at hx
        have fin : ∀ (v' : Value) (w' : World), w'.ownsRow w.heap.size 5 1 v' (i + 1) ((xorB b ((pad64 P).take i)).map byv ++ [byv (x ^^^ b)]) → w'.ownsRow w.heap.size 5 1 v' (i + 1) ((xorB b ((pad64 P).take (i + 1))).map byv) := fun v' w' h => by
          have hil : i < (pad64 P).length := by rw [HPl.out]; exact hi64
          rw [List.take_succ_eq_append_getElem hil, xorB, List.map_append, List.map_append]
          have e : (pad64 P)[i] = x := by rw [Hx.out]; simp [hil]
          rw [e]; exact h
        by_cases hiP : i < P.length
        · have ix : ∀ W, (Instr.index 9 (str P) (.int .i64 (i : Int))).run Tryd.prog W = .ok (byv x) W := fun W => by
            rw [Hx.out]
            have e : (pad64 P).getD i 0 = P.getD i 0 := by simp [pad64, List.getElem?_append_left hiP]
            rw [e]; exact index9 W P i .i64 hiP
          go_wp2_with (refine wpList_append_sl rfl _ _ 22 rfl w.heap.size 5 (.int .u8 0) 1 1 Tryd.underlying22 info5 rfl (by decide) _ i _ rfl (how.alloc _) _ 1 [byv (x ^^^ b)] rfl (sl_new _ _ _ 1 rfl (by decide)) (by simp [Value.oneCell']) (by unfold maxLen; omega) (by omega) (by simp; omega) ?_)
          intro v' w' hown' hg
          go_wp2
          go_roundw
          case rel => exact ⟨i + 1, by omega, by go_num, fin _ _ hown', hb.trans ((grown_below ((Below.refl _ _).alloc (by omega) _) (how.alloc _) hg (by simp; omega)).mono (by omega))⟩
          case measure => simp [intOf]; omega
        · have hx0 : x = 0 := by rw [Hx.out]; simp [pad64, List.getElem?_append_right (show P.length ≤ i by omega), show i - P.length < 64 - P.length by omega]
          subst hx0
          have hz0 : (0 : UInt8) ^^^ b = b := by simp
          have hxb : bits .xor .u8 0 (b.toNat : Int) = (b.toNat : Int) := by simpa using hx
          rw [hz0] at fin
          clear hx hz0
          go_wp2_with (refine wpList_append_sl rfl _ _ 22 rfl w.heap.size 5 (.int .u8 0) 1 1 Tryd.underlying22 info5 rfl (by decide) _ i _ rfl (how.alloc _) _ 1 [byv b] rfl (sl_new _ _ _ 1 rfl (by decide)) (by simp [Value.oneCell']) (by unfold maxLen; omega) (by omega) (by simp; omega) ?_)
          intro v' w' hown' hg
          go_wp2
          go_roundw
          case rel => exact ⟨i + 1, by omega, by go_num, fin _ _ hown', hb.trans ((grown_below ((Below.refl _ _).alloc (by omega) _) (how.alloc _) hg (by simp; omega)).mono (by omega))⟩
          case measure => simp [intOf]; omega
      · obtain rfl : i = 64 := by omega
        rw [List.take_of_length_le (by rw [HPl.out]; omega)] at how
        go_wp2
        go_ret
        exact ⟨_, rfl, by rw [← HP.out]; exact how, hb⟩
theorem xpad_len (b : UInt8) (k : List UInt8) : (xorB b (pad64 (macKey k))).length = 64 := by
  have := macKey_len k
  simp [xorB, pad64]; omega
set_option maxHeartbeats 400000 in
theorem rmac_any (k m : List UInt8) (hk : k.length ≤ 100000) (hm : m.length ≤ 100000) (w : World) (hK : Cells w 0 0 (Kt.map U)) (h0 : 0 < w.heap.size) :
    Calls Tryd.prog 19 #[str k, str m] w fun e w' => e = .returned (str (macF k m)) ∧ Below w.heap.size w w' := by
  have HK := Lib.hid hK; clear hK
  have hx54 := xpad_len 54 k
  have hx92 := xpad_len 92 k
  obtain ⟨X, HX⟩ : ∃ X, Hid (X = xorB 54 (pad64 (macKey k))) := ⟨_, rfl⟩
  obtain ⟨Y, HY⟩ : ∃ Y, Hid (Y = xorB 92 (pad64 (macKey k))) := ⟨_, rfl⟩
  rw [← HX.out] at hx54
  rw [← HY.out] at hx92
  have Hx54 := Lib.hid hx54; clear hx54
  have Hx92 := Lib.hid hx92; clear hx92
  have c54 := fun W hW h0' => padKey_any k hk 54 W hW h0'
  have c92 := fun W hW h0' => padKey_any k hk 92 W hW h0'
  rw [← HX.out] at c54
  rw [← HY.out] at c92
  have C54 := Lib.hid c54; clear c54
  have C92 := Lib.hid c92; clear c92
  go_enter Tryd.func19, Tryd.ntmps19
  go_wp2_with fail
  refine (C54.out w HK.out h0).mono ?_
  rintro e w1 ⟨v1, rfl, how1, hb1⟩
  have hz1 := hb1.size
  go_wp2_with (refine wpList_append_str rfl _ _ 22 9 rfl w.heap.size 5 Tryd.underlying22 Tryd.underlying9 info5 _ _ _ rfl how1 m rfl (by omega) (by omega) ?_)
  intro v2 w2 how2 hg2
  have hb2 : Below w.heap.size w w2 := grown_below hb1 how1 hg2 hz1
  have hz2 := hb2.size
  have hsl2 : Sl w2 1 v2 (64 + m.length) ((X ++ m).map byv) := by rw [List.map_append]; exact Sl.of_owns how2
  clear how1 how2 hg2
  go_wp2_with fail
  refine (C92.out w2 (HK.out.below hb2 h0) (by omega)).mono ?_
  rintro e w3 ⟨v3, rfl, how3, hb3⟩
  have hz3 := hb3.size
  have hsl3 := hsl2.below hb3
  obtain ⟨sa, cap, rfl⟩ := sl_slice hsl3
  have hXm : (X ++ m).length = 64 + m.length := by rw [List.length_append, Hx54.out]
  rw [← hXm] at hsl3
  have hr := fun (W : World) (h : Sl W 1 (.slice sa (X ++ m).length cap) (X ++ m).length ((X ++ m).map byv)) hW h0' => rsum_any (X ++ m) sa cap W h (by omega) hW h0'
  rw [hXm] at hr hsl3
  have HR := Lib.hid hr; clear hr
  clear hXm hsl2
  go_wp2_with fail
  refine (HR.out w3 hsl3 (HK.out.below (hb2.trans (hb3.mono hz2)) h0) (by omega)).mono ?_
  rintro e w4 ⟨rfl, hb4⟩
  have hz4 := hb4.size
  go_wp2_with fail
  refine (bytes32_any (sha (X ++ m)) (sha_length _) w4).mono ?_
  rintro e w5 ⟨rfl, hb5⟩
  have hz5 := hb5.size
  have how5 := (how3.below hb4).below hb5
  have hsl32 := sha_length (X ++ m)
  go_wp2_with (refine wpList_append_str rfl _ _ 22 9 rfl w2.heap.size 5 Tryd.underlying22 Tryd.underlying9 info5 _ _ _ rfl how5 (sha (X ++ m)) rfl (by omega) (by omega) ?_)
  intro v6 w6 how6 hg6
  have hb5' : Below w2.heap.size w2 w5 := (hb3.trans (hb4.mono hz3)).trans (hb5.mono (by omega))
  have hb6 : Below w2.heap.size w2 w6 := grown_below hb5' how5 hg6 (by omega)
  have hz6 := hb6.size
  have hsl6 : Sl w6 1 v6 (64 + (sha (X ++ m)).length) ((Y ++ sha (X ++ m)).map byv) := by rw [List.map_append]; exact Sl.of_owns how6
  clear how3 how5 how6 hg6
  obtain ⟨sb, cap2, rfl⟩ := sl_slice hsl6
  have hYm : (Y ++ sha (X ++ m)).length = 64 + (sha (X ++ m)).length := by rw [List.length_append, Hx92.out]
  rw [← hYm] at hsl6
  have hr := fun (W : World) (h : Sl W 1 (.slice sb (Y ++ sha (X ++ m)).length cap2) (Y ++ sha (X ++ m)).length ((Y ++ sha (X ++ m)).map byv)) hW h0' => rsum_any (Y ++ sha (X ++ m)) sb cap2 W h (by omega) hW h0'
  rw [hYm] at hr hsl6
  have HR2 := Lib.hid hr; clear hr
  clear hYm hsl32
  have hb26 : Below w.heap.size w w6 := hb2.trans (hb6.mono hz2)
  go_wp2_with fail
  refine (HR2.out w6 hsl6 (HK.out.below hb26 h0) (by omega)).mono ?_
  rintro e w7 ⟨rfl, hb7⟩
  go_wp2_with fail
  refine (bytes32_any (sha (Y ++ sha (X ++ m))) (sha_length _) w7).mono ?_
  rintro e w8 ⟨rfl, hb8⟩
  go_wp2
  go_ret
  refine ⟨?_, (hb26.trans (hb7.mono (by omega))).trans (hb8.mono (by have := hb7.size; omega))⟩
  rw [macF, ← HX.out, ← HY.out]
  rfl
end Go.Proofs.YtcdgpkhfflehjaaDoor
