/- The walk over HashStreamsAgree. -/
import Derived.Test.YtcdgpkhfflehjaaDoorA23
import Derived.Test.YtcdgpkhfflehjaaDoorSp
namespace Go.Proofs.YtcdgpkhfflehjaaDoor
open Go.RowKit Go.Sha Go.Own Go.BigFrame
attribute [local go_sem high] op_str_eql op_str_neq
attribute [local go_sem] str_size str_append
theorem flat400 (l : List (List UInt8)) (n : Nat) (hn : l.length ≤ n) (h : ∀ p ∈ l, p.length ≤ 400) : l.flatten.length ≤ 400 * n := by
  induction l generalizing n with
  | nil => simp
  | cons a l ih =>
    cases n with
    | zero => simp at hn
    | succ n =>
      have h1 := ih n (by simpa using hn) (fun p hp => h p (List.mem_cons_of_mem _ hp))
      have h2 := h a (List.mem_cons_self ..)
      simp only [List.flatten_cons, List.length_append]; omega
theorem sl_take {w : World} {n k : Nat} {sa : Option Addr} {cap : Nat} {vs : List Value} (h : Sl w 1 (.slice sa n cap) n vs) (hk : k ≤ n) : Sl w 1 (.slice sa k cap) k (vs.take k) := by
  obtain ⟨h1, ⟨hv, h0⟩ | ⟨b, off, cap', hv, hc1, hc2, hC, hlt⟩⟩ := h
  · injection hv with e1 e2 e3
    subst e1; subst e3
    obtain rfl : k = 0 := by omega
    exact ⟨by simp, .inl ⟨rfl, rfl⟩⟩
  · injection hv with e1 e2 e3
    subst e1; subst e3
    exact ⟨by simp; omega, .inr ⟨b, off, cap, rfl, by omega, hc2, fun i v hi => hC i v (by
      have hik : i < k := by have := (List.getElem?_eq_some_iff.1 hi).1; simp at this; omega
      rwa [List.getElem?_take_of_lt hik] at hi), hlt⟩⟩
theorem sl_nilcap {w : World} {n : Nat} {sa : Option Addr} {cap : Nat} {vs : List Value} (h : Sl w 1 (.slice sa n cap) n vs) : (sa = none → cap = 0) ∧ ∀ a, sa = some a → a.spot = none := by
  obtain ⟨h1, ⟨hv, h0⟩ | ⟨b, off, cap', hv, hc1, hc2, hC, hlt⟩⟩ := h
  · injection hv with e1 e2 e3
    exact ⟨fun _ => e3, fun a ha => by rw [e1] at ha; cases ha⟩
  · injection hv with e1 e2 e3
    exact ⟨fun ha => (by rw [e1] at ha; cases ha), fun a ha => (by rw [e1] at ha; injection ha with ha; rw [← ha])⟩
theorem sl_le {w : World} {n k : Nat} {sa : Option Addr} {cap : Nat} {vs : List Value} (h : Sl w 1 (.slice sa n cap) n vs) (hk : k ≤ n) : k ≤ cap := by
  obtain ⟨h1, ⟨hv, h0⟩ | ⟨b, off, cap', hv, hc1, hc2, hC, hlt⟩⟩ := h
  · omega
  · injection hv with e1 e2 e3
    omega
theorem sl_capm {w : World} {n : Nat} {sa : Option Addr} {cap : Nat} {vs : List Value} (h : Sl w 1 (.slice sa n cap) n vs) : cap ≤ maxLen := by
  obtain ⟨h1, ⟨hv, h0⟩ | ⟨b, off, cap', hv, hc1, hc2, hC, hlt⟩⟩ := h
  · injection hv with e1 e2 e3
    rw [e3]; exact Nat.zero_le _
  · injection hv with e1 e2 e3
    rw [e3]; exact hc2
theorem slice27 (sa : Option Addr) (n cap k : Nat) (hs : (sa = none → cap = 0) ∧ ∀ a, sa = some a → a.spot = none) (hk : k ≤ cap) (hc : cap ≤ maxLen) (w : World) : (Instr.slice 27 (.slice sa n cap) none (some (.int .i64 (k : Int))) none).run Tryd.prog w = .ok (.slice sa k cap) w := by
  have hz : (sizeOf (Tryd.prog.elem 27)).run Tryd.prog w = .ok 1 w := by kernel_rfl
  rw [run_slice_h (ht := by kernel_rfl) (h0 := by omega) (h2 := by omega), hz]
  simp only [Result.andThen, sliced]
  cases sa with
  | none => rw [hs.1 rfl] at hk ⊢; obtain rfl : k = 0 := by omega
            rfl
  | some a =>
    obtain ⟨b, off, sp⟩ := a
    obtain rfl : sp = none := hs.2 _ rfl
    simp [Addr.add]
set_option maxHeartbeats 1600000 in
set_option maxRecDepth 100000 in
theorem streamsLaw_any (l : List (List UInt8)) (sa : Option Addr) (cap : Nat) (o : List UInt8) (a : UInt8) (w : World) (hsl : Sl w 1 (.slice sa l.length cap) l.length (l.map str)) (hl : l.length ≤ maxLen) (hls : ∀ s ∈ l, s.length ≤ maxLen) (ho0 : o.length ≤ maxLen)
    (hK : Cells w 0 0 (Kt.map U)) (hK1 : Cells w 1 0 (Kt.map U)) (h1 : 1 < w.heap.size) :
    Calls Tryd.prog 4 #[.slice sa l.length cap, str o, byv a] w fun e w' => e = .returned (.bool true) ∧ Below w.heap.size w w' := by
  unfold maxLen at ho0
  have HK := Lib.hid hK; clear hK
  have HK1 := Lib.hid hK1; clear hK1
  have HSL := Lib.hid hsl; clear hsl
  have hfew := fun W hs => few_any l sa cap W hs hl hls
  by_cases hfb : fewB l = true
  · obtain ⟨hl12, hp⟩ := few_true hfb
    rw [hfb] at hfew
    have HF := Lib.hid hfew
    have HP := Lib.hid hp
    clear hfew hp hfb hls
    by_cases hol : o.length ≤ 400
    · obtain ⟨K, HKn⟩ : ∃ K, Hid (K = a.toNat % (l.length + 1)) := ⟨_, rfl⟩
      have hKl : K ≤ l.length := by rw [HKn.out]; have := Nat.mod_lt a.toNat (show l.length + 1 > 0 by omega); omega
      have hmod : (a.toNat : Int) % ((l.length : Int) + 1) = (K : Int) := by rw [HKn.out]; simp
      have hal := a.toNat_lt
      have hlen12 : (l.length : Int) ≤ 12 := by omega
      have hz34 := fun W => zeroValue34 W
      go_enter Tryd.func4, Tryd.ntmps4
      go_upto_region 5 with (first | (go_at_call 10; refine (sanity_any w HK1.out h1).mono ?_; rintro e w1 ⟨rfl, hb1⟩; have hz1 := hb1.size) | (go_at_call 13; refine (HF.out w1 (HSL.out.below hb1)).mono ?_; rintro e wx ⟨rfl, rfl⟩))
      simp only [hmod]
      have HM := Lib.hid hmod; clear hmod
      go_wp2_with (first | (go_at_call 14; refine (begin_any wx).mono ?_; rintro e w2 ⟨c0, rfl, hs0, hb2⟩; have hz2 := hb2.size; have hcl0 := hs0.length; have hb12 := hb1.trans (hb2.mono hz1); have Hs0 := Lib.hid hs0; clear hs0) | (refine wpList_store_blk (ty := 34) (n := 73) (vs := c0) (Blk.new _ _ 34) rfl rfl rfl rfl rfl (by kernel_rfl) hcl0 (by simp [zero34]) Hs0.out.oneCell ?_))
      intro w3 hb3 ho3
      have hB3 : Blk w3 w2.heap.size c0 34 := by
        have e : List.drop (0 + 73) zero34 = [] := by rfl
        simpa [e] using hb3
      have hbw3 : Below w.heap.size w w3 := ho3.below (hb12.alloc (by omega) _) (by omega)
      clear hb3 ho3
      obtain ⟨B, HBe⟩ : ∃ B, Hid (B = w2.heap.size) := ⟨_, rfl⟩
      have HB : Hid (w.heap.size ≤ B) := by show _ ≤ _; rw [HBe.out]; omega
      rw [← HBe.out] at hB3 ⊢
      clear hb2 hz2 hb12 hb1 hz1
      go_wp2
      go_loopw [10] (fun c wr => ∃ (i : Nat) (cs : List Value), i ≤ K ∧ c = .int .i64 i ∧ Blk wr B cs 34 ∧ Hid (StreamOf (l.take i).flatten cs) ∧ Below w.heap.size w wr) (fun c _ => K - (intOf c).toNat)
      case atStart => exact ⟨0, c0, by omega, rfl, hB3, by simpa using Hs0, hbw3⟩
      case round =>
        obtain ⟨i, cs, hi, rfl, hB, Hs, hbw⟩ := hrel
        by_cases hik : i < K
        · obtain ⟨b0, off, rfl, hc1, hc2, hC0, hlt0⟩ := sl_cases HSL.out (by omega)
          obtain ⟨p, Hp⟩ : ∃ p, Hid (p = l.getD i []) := ⟨_, rfl⟩
          have hin : i < l.length := by omega
          have hmem : p ∈ l := by rw [Hp.out]; simp [hin]
          have hpl := HP.out p hmem
          have hpi : (l.map str)[i]? = some (str p) := by rw [Hp.out]; simp [hin]
          have hCs := hC0.below hbw hlt0
          have hb0 : b0 < wr.heap.size := Nat.lt_of_lt_of_le hlt0 hbw.size
          obtain ⟨M, HM⟩ : ∃ M, Hid (M = (l.take i).flatten) := ⟨_, rfl⟩
          have hMl : M.length ≤ 400 * i := by
            rw [HM.out]; exact flat400 (l.take i) i (by simp; omega) (fun q hq => HP.out q (List.mem_of_mem_take hq))
          rw [← HM.out] at Hs
          have hcl := Hs.out.length
          have hltB := hB.lt
          have hzr := hbw.size
          have HPI := Lib.hid hpi; clear hpi
          have hpi := HPI.out
          clear hC0
          go_wp2
          refine wp_region_sqB 6 [0, 4, 5] (fun i v W => match i with
            | 0 => v = .agg cs.toArray
            | 4 => v = str p
            | 5 => ∃ cs', v = .agg cs'.toArray ∧ StreamOf (M ++ p) cs'
            | _ => True) (by kernel_rfl) (by kernel_rfl) ?stable ?main
          case stable =>
            intro i v W W' h hb
            match i, h with
            | 0, h => exact h
            | 1, h => exact h
            | 2, h => exact h
            | 3, h => exact h
            | 4, h => exact h
            | 5, h => exact h
            | _ + 6, _ => exact trivial
          case main =>
            simp only [List.take_succ_cons, List.take_zero, List.drop_succ_cons, List.drop_zero]
            repeat (refine sqw_quiet rfl rfl (ExtB.refl _) ?_; go_big_quiet_step (fail); refine wpQuiet_nil ?_)
            refine sqw_postY rfl rfl rfl ?_ ?_
            · intro W1 hb hf
              have hC := (hB.below (ExtB.undrew hb) hltB).cells0
              exact yields_load rfl hC rfl Tryd.underlying34 rfl (by kernel_rfl) hcl ⟨rfl, ExtB.refl _⟩
            intro v Wj hv
            obtain rfl : v = .agg cs.toArray := hv
            simp only [Act.put, List.setIfInBounds_toArray, List.set_cons_zero, List.set_cons_succ]
            repeat (refine sqw_quiet rfl rfl (ExtB.refl _) ?_; go_big_quiet_step (fail); refine wpQuiet_nil ?_)
            refine sqw_postY rfl rfl rfl ?_ ?_
            · intro W1 hb hf
              have cx : W1.cell? ⟨b0, off + i, none⟩ = some (str p) := (hCs.below (ExtB.undrew hb) hb0) i (str p) hpi
              refine yields_value (v := str p) (w' := W1) ?_ ⟨rfl, ExtB.refl _⟩
              go_simp
            intro v Wj hv
            obtain rfl : v = str p := hv
            simp only [Act.put, List.setIfInBounds_toArray, List.set_cons_zero, List.set_cons_succ]
            repeat (refine sqw_quiet rfl rfl (ExtB.refl _) ?_; go_big_quiet_step (fail); refine wpQuiet_nil ?_)
            refine sqw_postY rfl rfl rfl ?_ ?_
            · intro W1 hb hf
              have hbw1 := hbw.trans ((ExtB.undrew hb).mono hzr)
              refine yields_call rfl (by kernel_rfl) rfl rfl ((add_any M p cs Hs.out (by omega) W1 (HK1.out.below hbw1 h1) (by have := hbw1.size; omega)).mono ?_)
              rintro e w' ⟨cs', rfl, h2, h3⟩
              exact ⟨_, rfl, ⟨cs', rfl, h2⟩, h3⟩
            intro v Wj hv
            obtain ⟨cs', rfl, hs'⟩ : ∃ cs', v = .agg cs'.toArray ∧ StreamOf (M ++ p) cs' := hv
            simp only [Act.put, List.setIfInBounds_toArray, List.set_cons_zero, List.set_cons_succ]
            repeat (refine sqw_quiet rfl rfl (ExtB.refl _) ?_; go_big_quiet_step (fail); refine wpQuiet_nil ?_)
            intro w7 hb _
            have hb7 := ExtB.undrew hb
            have Hs' := Lib.hid hs'
            have hcl' := hs'.length
            clear hs' hpi
            go_wp2_with (refine wpList_store_blk (ty := 34) (n := 73) (vs := cs') (hB.below hb7 hltB) rfl rfl rfl rfl rfl (by kernel_rfl) hcl' (by omega) Hs'.out.oneCell ?_)
            intro w8 hb8 ho8
            have hB8 : Blk w8 B cs' 34 := by simpa [List.drop_of_length_le (show cs.length ≤ 73 by omega)] using hb8
            have hbw8 : Below w.heap.size w w8 := ho8.below (hbw.trans (hb7.mono hzr)) HB.out
            have eM : (l.take (i + 1)).flatten = M ++ p := by
              have e0 : l[i] = p := by rw [Hp.out]; simp [hin]
              rw [List.take_succ_eq_append_getElem hin, e0, List.flatten_append, ← HM.out]; simp
            clear hb8
            go_wp2
            go_roundw
            case rel => exact ⟨i + 1, cs', by omega, by go_num, hB8, by rw [eM]; exact Hs', hbw8⟩
            case measure => simp [intOf]; omega
        · have hiK : K = i := by omega
          subst hiK
          have hcl := Hs.out.length
          have hltB := hB.lt
          have hzr := hbw.size
          go_wp2_with (first | (refine wpList_load_cells (ty := 34) (n := 73) hB.cells0 rfl rfl rfl Tryd.underlying34 rfl (by kernel_rfl) hcl ?_) | (refine wpList_store_blk (ty := 34) (n := 73) (vs := cs) (Blk.new _ _ 34) rfl rfl rfl rfl rfl (by kernel_rfl) hcl (by simp [zero34]) Hs.out.oneCell ?_))
          intro w4 hb4 ho4
          have hE4 : Blk w4 wr.heap.size cs 34 := by
            have e : List.drop (0 + 73) zero34 = [] := by rfl
            simpa [e] using hb4
          have hB4 : Blk w4 B cs 34 := ho4.blk (by omega) (hB.alloc _)
          have hbw4 : Below w.heap.size w w4 := ho4.below (hbw.alloc hzr _) hzr
          clear hb4 ho4
          obtain ⟨E, HEe⟩ : ∃ E, Hid (E = wr.heap.size) := ⟨_, rfl⟩
          have HE : Hid (w.heap.size ≤ E) := by show _ ≤ _; rw [HEe.out]; omega
          have HBE : Hid (B ≠ E) := by show ¬ _ = _; rw [HEe.out]; omega
          have HBE' : Hid (E ≠ B) := by show ¬ _ = _; rw [HEe.out]; omega
          rw [← HEe.out] at hE4 ⊢
          clear hbw hzr hltB hB hcl
          obtain ⟨ce, Hce⟩ : ∃ ce, Hid (ce = cs) := ⟨_, rfl⟩
          rw [← Hce.out] at hE4
          have He : Hid (StreamOf (l.take K).flatten ce) := by rw [Hce.out]; exact Hs
          obtain ⟨wo, rfl⟩ : ∃ wo : World, wo = wr := ⟨_, rfl⟩
          go_wp2
          go_loopw [12] (fun c wr => ∃ (j : Nat) (cs : List Value), j ≤ l.length ∧ c = .int .i64 j ∧ Blk wr B cs 34 ∧ Hid (StreamOf (l.take j).flatten cs) ∧ Blk wr E ce 34 ∧ Below w.heap.size w wr) (fun c _ => l.length - (intOf c).toNat)
          case atStart => exact ⟨K, cs, by omega, rfl, hB4, Hs, hE4, hbw4⟩
          case round =>
            clear hB4 Hs hE4 hbw4 Hce
            obtain ⟨i, cs, hi, rfl, hB, Hs, hE, hbw⟩ := hrel
            by_cases hjl : i < l.length
            · obtain ⟨b0, off, rfl, hc1, hc2, hC0, hlt0⟩ := sl_cases HSL.out (by omega)
              obtain ⟨p, Hp⟩ : ∃ p, Hid (p = l.getD i []) := ⟨_, rfl⟩
              have hin : i < l.length := by omega
              have hmem : p ∈ l := by rw [Hp.out]; simp [hin]
              have hpl := HP.out p hmem
              have hpi : (l.map str)[i]? = some (str p) := by rw [Hp.out]; simp [hin]
              have hCs := hC0.below hbw hlt0
              have hb0 : b0 < wr.heap.size := Nat.lt_of_lt_of_le hlt0 hbw.size
              obtain ⟨M, HM⟩ : ∃ M, Hid (M = (l.take i).flatten) := ⟨_, rfl⟩
              have hMl : M.length ≤ 400 * i := by
                rw [HM.out]; exact flat400 (l.take i) i (by simp; omega) (fun q hq => HP.out q (List.mem_of_mem_take hq))
              rw [← HM.out] at Hs
              have hcl := Hs.out.length
              have hltB := hB.lt
              have hzr := hbw.size
              have HPI := Lib.hid hpi; clear hpi
              have hpi := HPI.out
              clear hC0
              go_wp2
              refine wp_region_sqB 6 [0, 4, 5] (fun i v W => match i with
                | 0 => v = .agg cs.toArray
                | 4 => v = str p
                | 5 => ∃ cs', v = .agg cs'.toArray ∧ StreamOf (M ++ p) cs'
                | _ => True) (by kernel_rfl) (by kernel_rfl) ?stable ?main
              case stable =>
                intro i v W W' h hb
                match i, h with
                | 0, h => exact h
                | 1, h => exact h
                | 2, h => exact h
                | 3, h => exact h
                | 4, h => exact h
                | 5, h => exact h
                | _ + 6, _ => exact trivial
              case main =>
                simp only [List.take_succ_cons, List.take_zero, List.drop_succ_cons, List.drop_zero]
                repeat (refine sqw_quiet rfl rfl (ExtB.refl _) ?_; go_big_quiet_step (fail); refine wpQuiet_nil ?_)
                refine sqw_postY rfl rfl rfl ?_ ?_
                · intro W1 hb hf
                  have hC := (hB.below (ExtB.undrew hb) hltB).cells0
                  exact yields_load rfl hC rfl Tryd.underlying34 rfl (by kernel_rfl) hcl ⟨rfl, ExtB.refl _⟩
                intro v Wj hv
                obtain rfl : v = .agg cs.toArray := hv
                simp only [Act.put, List.setIfInBounds_toArray, List.set_cons_zero, List.set_cons_succ]
                repeat (refine sqw_quiet rfl rfl (ExtB.refl _) ?_; go_big_quiet_step (fail); refine wpQuiet_nil ?_)
                refine sqw_postY rfl rfl rfl ?_ ?_
                · intro W1 hb hf
                  have cx : W1.cell? ⟨b0, off + i, none⟩ = some (str p) := (hCs.below (ExtB.undrew hb) hb0) i (str p) hpi
                  refine yields_value (v := str p) (w' := W1) ?_ ⟨rfl, ExtB.refl _⟩
                  go_simp
                intro v Wj hv
                obtain rfl : v = str p := hv
                simp only [Act.put, List.setIfInBounds_toArray, List.set_cons_zero, List.set_cons_succ]
                repeat (refine sqw_quiet rfl rfl (ExtB.refl _) ?_; go_big_quiet_step (fail); refine wpQuiet_nil ?_)
                refine sqw_postY rfl rfl rfl ?_ ?_
                · intro W1 hb hf
                  have hbw1 := hbw.trans ((ExtB.undrew hb).mono hzr)
                  refine yields_call rfl (by kernel_rfl) rfl rfl ((add_any M p cs Hs.out (by omega) W1 (HK1.out.below hbw1 h1) (by have := hbw1.size; omega)).mono ?_)
                  rintro e w' ⟨cs', rfl, h2, h3⟩
                  exact ⟨_, rfl, ⟨cs', rfl, h2⟩, h3⟩
                intro v Wj hv
                obtain ⟨cs', rfl, hs'⟩ : ∃ cs', v = .agg cs'.toArray ∧ StreamOf (M ++ p) cs' := hv
                simp only [Act.put, List.setIfInBounds_toArray, List.set_cons_zero, List.set_cons_succ]
                repeat (refine sqw_quiet rfl rfl (ExtB.refl _) ?_; go_big_quiet_step (fail); refine wpQuiet_nil ?_)
                intro w7 hb _
                have hb7 := ExtB.undrew hb
                have Hs' := Lib.hid hs'
                have hcl' := hs'.length
                clear hs' hpi
                go_wp2_with (refine wpList_store_blk (ty := 34) (n := 73) (vs := cs') (hB.below hb7 hltB) rfl rfl rfl rfl rfl (by kernel_rfl) hcl' (by omega) Hs'.out.oneCell ?_)
                intro w8 hb8 ho8
                have hB8 : Blk w8 B cs' 34 := by simpa [List.drop_of_length_le (show cs.length ≤ 73 by omega)] using hb8
                have hbw8 : Below w.heap.size w w8 := ho8.below (hbw.trans (hb7.mono hzr)) HB.out
                have eM : (l.take (i + 1)).flatten = M ++ p := by
                  have e0 : l[i] = p := by rw [Hp.out]; simp [hin]
                  rw [List.take_succ_eq_append_getElem hin, e0, List.flatten_append, ← HM.out]; simp
                clear hb8
                go_wp2
                go_roundw
                case rel => exact ⟨i + 1, cs', by omega, by go_num, hB8, by rw [eM]; exact Hs', ho8.blk (by first | exact HBE.out | exact HBE'.out) (hE.below hb7 hE.lt), hbw8⟩
                case measure => simp [intOf]; omega
            · obtain rfl : i = l.length := by omega
              rw [List.take_length] at Hs
              have hXl : l.flatten.length ≤ 400 * 12 := flat400 l 12 hl12 HP.out
              have hYl : (l.take K).flatten.length ≤ 400 * 12 := flat400 (l.take K) 12 (by simp; omega) (fun q hq => HP.out q (List.mem_of_mem_take hq))
              obtain ⟨X, HX⟩ : ∃ X, Hid (X = l.flatten) := ⟨_, rfl⟩
              obtain ⟨Y, HY⟩ : ∃ Y, Hid (Y = (l.take K).flatten) := ⟨_, rfl⟩
              have hj1 := fun W hs => joined_any l sa cap W hs hl (by omega)
              have hj2 := fun W hs => joined_any (l.take K) sa cap W hs (by rw [List.length_take]; omega) (by omega)
              have hlk : (l.take K).length = K := by rw [List.length_take]; omega
              rw [← HX.out] at hXl hj1 Hs
              rw [hlk, ← HY.out] at hj2
              rw [← HY.out] at hYl He
              have HJ1 := Lib.hid hj1
              have HJ2 := Lib.hid hj2
              have hcl := Hs.out.length
              have hce := He.out.length
              have hltB := hB.lt
              have hltE := hE.lt
              have hzr := hbw.size
              clear hj1 hj2 hlk
              have hbr := hbw
              have HSLK : Hid (∀ W, Below w.heap.size w W → Sl W 1 (.slice sa K cap) K ((l.take K).map str)) := fun W hb => by rw [List.map_take]; exact sl_take (HSL.out.below hb) hKl
              have hsle := slice27 sa l.length cap K (sl_nilcap HSL.out) (sl_le HSL.out hKl) (sl_capm HSL.out)
              go_wp2_with (first | (refine wpList_load_cells (ty := 34) (n := 73) hE.cells0 rfl rfl rfl Tryd.underlying34 rfl (by kernel_rfl) hce ?_) | (refine wpList_store_blk (ty := 34) (n := 73) (vs := cf) (Blk.new _ _ 34) rfl rfl rfl rfl rfl (by kernel_rfl) hcf (by simp [zero34]) Hf.out.oneCell ?_) | (go_at_call 15; refine (add_any Y o ce He.out (by omega) wr (HK1.out.below hbr h1) (by omega)).mono ?_; rintro e w5 ⟨cf, rfl, hsf, hb5⟩; have hcf := hsf.length; have Hf := Lib.hid hsf; clear hsf))
              intro w6 hb6 ho6
              have hz5 := hb5.size
              have hF6 : Blk w6 w5.heap.size cf 34 := by
                have e : List.drop (0 + 73) zero34 = [] := by rfl
                simpa [e] using hb6
              have hB6 : Blk w6 B cs 34 := ho6.blk (by omega) ((hB.below hb5 hltB).alloc _)
              have hE6 : Blk w6 E ce 34 := ho6.blk (by omega) ((hE.below hb5 hltE).alloc _)
              have hbw6 : Below w.heap.size w w6 := ho6.below ((hbw.trans (hb5.mono hzr)).alloc (by omega) _) (by omega)
              obtain ⟨F, HFe⟩ : ∃ F, Hid (F = w5.heap.size) := ⟨_, rfl⟩
              rw [← HFe.out] at hF6 ⊢
              clear hb6 ho6 hB hE hltB hltE hbw hbr hb5 hz5 hzr HB HE HBE HBE' HBe HEe
              go_upto_region 18 with (first | (go_at_call 16; refine (HJ1.out w6 (HSL.out.below hbw6)).mono ?_; rintro e wz ⟨rfl, rfl⟩))
              refine (HJ2.out wz (HSLK.out wz hbw6)).mono ?_
              rintro e w6 ⟨rfl, rfl⟩
              go_upto_region 18 with (fail)
              have hbw := hbw6
              have hzr := hbw6.size
              have hB := hB6
              have hE := hE6
              have hF := hF6
              have hXo : (Y ++ o).length ≤ 5300 := by rw [List.length_append]; omega
              clear hB6 hE6 hF6 hbw6 HJ1 HJ2 HSLK hsle
              have hYo : Y.length + o.length ≤ 5300 := by omega
              have hap := str_append Y o
              refine wp_region_spB 36 [2, 3, 5, 6, 7, 10, 11, 13, 14, 15, 18, 19, 23, 24, 25, 28, 29, 31, 32, 33] (fun i v W => match i with
                | 2 => v = .agg cs.toArray
                | 3 => v = .agg ((sha (X)).map byv).toArray
                | 5 => Sl W 1 v (X).length ((X).map byv)
                | 6 => v = .agg ((sha (X)).map byv).toArray
                | 7 => v = .bool true
                | 10 => v = .agg ce.toArray
                | 11 => v = .agg ((sha (Y)).map byv).toArray
                | 13 => Sl W 1 v (Y).length ((Y).map byv)
                | 14 => v = .agg ((sha (Y)).map byv).toArray
                | 15 => v = .bool true
                | 18 => v = .agg cf.toArray
                | 19 => v = .agg ((sha (Y ++ o)).map byv).toArray
                | 23 => Sl W 1 v (Y ++ o).length ((Y ++ o).map byv)
                | 24 => v = .agg ((sha (Y ++ o)).map byv).toArray
                | 25 => v = .bool true
                | 28 => v = .agg cs.toArray
                | 29 => v = .agg ((sha (X)).map byv).toArray
                | 31 => Sl W 1 v (X).length ((X).map byv)
                | 32 => v = .agg ((sha (X)).map byv).toArray
                | 33 => v = .bool true
                | _ => True) (by kernel_rfl) ?stable ?main
              case stable =>
                intro i v W W' h hb
                match i, h with
                | 0, h => exact h
                | 1, h => exact h
                | 2, h => exact h
                | 3, h => exact h
                | 4, h => exact h
                | 5, h => exact Sl.below h hb
                | 6, h => exact h
                | 7, h => exact h
                | 8, h => exact h
                | 9, h => exact h
                | 10, h => exact h
                | 11, h => exact h
                | 12, h => exact h
                | 13, h => exact Sl.below h hb
                | 14, h => exact h
                | 15, h => exact h
                | 16, h => exact h
                | 17, h => exact h
                | 18, h => exact h
                | 19, h => exact h
                | 20, h => exact h
                | 21, h => exact h
                | 22, h => exact h
                | 23, h => exact Sl.below h hb
                | 24, h => exact h
                | 25, h => exact h
                | 26, h => exact h
                | 27, h => exact h
                | 28, h => exact h
                | 29, h => exact h
                | 30, h => exact h
                | 31, h => exact Sl.below h hb
                | 32, h => exact h
                | 33, h => exact h
                | _ + 34, _ => exact trivial
              case main =>
                simp only [List.take_succ_cons, List.take_zero, List.drop_succ_cons, List.drop_zero]
                repeat (refine sqw_quiet rfl rfl (ExtB.refl _) ?_; go_big_quiet_step (fail); refine wpQuiet_nil ?_)
                refine sqw_postY rfl rfl rfl ?_ ?_
                · intro W1 hb hf
                  have hC := (hB.below hb hB.lt).cells0
                  exact yields_load rfl hC rfl Tryd.underlying34 rfl (by kernel_rfl) hcl ⟨rfl, ExtB.refl _⟩
                intro v Wj hv
                obtain rfl : v = .agg cs.toArray := hv
                simp only [Act.put, List.setIfInBounds_toArray, List.set_cons_zero, List.set_cons_succ]
                repeat (refine sqw_quiet rfl rfl (ExtB.refl _) ?_; go_big_quiet_step (fail); refine wpQuiet_nil ?_)
                refine sqw_postY rfl rfl rfl ?_ ?_
                · intro W1 hb hf
                  have hbw1 := hbw.trans (Below.mono hb hzr)
                  refine yields_call rfl (by kernel_rfl) rfl rfl ((ssum_any X _ Hs.out (by omega) W1 (HK1.out.below hbw1 h1) (by have := hbw1.size; omega)).mono ?_)
                  rintro e w' ⟨rfl, h2⟩
                  exact ⟨_, rfl, rfl, h2⟩
                intro v Wj hv
                obtain rfl : v = .agg ((sha (X)).map byv).toArray := hv
                simp only [Act.put, List.setIfInBounds_toArray, List.set_cons_zero, List.set_cons_succ]
                repeat (refine sqw_quiet rfl rfl (ExtB.refl _) ?_; go_big_quiet_step (fail); refine wpQuiet_nil ?_)
                refine sqw_postY rfl rfl rfl ?_ ?_
                · intro W1 hb hf
                  exact yields_str_bytes (bs := X) rfl rfl Tryd.underlying9 Tryd.underlying22 Tryd.underlying5 (by omega) fun v w' h1 h2 _ => ⟨h1, h2⟩
                intro v Wj hv
                clear hv
                simp only [Act.put, List.setIfInBounds_toArray, List.set_cons_zero, List.set_cons_succ]
                repeat (refine sqw_quiet rfl rfl (ExtB.refl _) ?_; go_big_quiet_step (fail); refine wpQuiet_nil ?_)
                refine sqw_postY rfl rfl rfl ?_ ?_
                · intro W1 hb hf
                  have hbw1 := hbw.trans (Below.mono hb hzr)
                  have p5 : Sl W1 1 v (X).length ((X).map byv) := hf 5 72 (by kernel_rfl) rfl rfl (fun o h => by obtain rfl := Option.some.inj h; rfl)
                  obtain ⟨sx, cx, rfl⟩ := sl_slice p5
                  refine yields_call rfl (by kernel_rfl) rfl rfl ((rsum_any (X) sx cx W1 p5 (by omega) (HK.out.below hbw1 (by omega)) (by have := hbw1.size; omega)).mono ?_)
                  rintro e w' ⟨rfl, h2⟩
                  exact ⟨_, rfl, rfl, h2⟩
                intro v Wj hv
                obtain rfl : v = .agg ((sha (X)).map byv).toArray := hv
                simp only [Act.put, List.setIfInBounds_toArray, List.set_cons_zero, List.set_cons_succ]
                repeat (refine sqw_quiet rfl rfl (ExtB.refl _) ?_; go_big_quiet_step (fail); refine wpQuiet_nil ?_)
                refine sqw_postY rfl rfl rfl ?_ ?_
                · intro W1 hb hf
                  refine yields_value (v := .bool true) (w' := W1) ?_ ⟨rfl, ExtB.refl _⟩
                  exact eq24_exec rfl rfl rfl (sha_length (X)) W1
                intro v Wj hv
                obtain rfl : v = .bool true := hv
                simp only [Act.put, List.setIfInBounds_toArray, List.set_cons_zero, List.set_cons_succ]
                repeat (refine sqw_quiet rfl rfl (ExtB.refl _) ?_; go_big_quiet_step (fail); refine wpQuiet_nil ?_)
                refine sqw_postY rfl rfl rfl ?_ ?_
                · intro W1 hb hf
                  have hC := (hE.below hb hE.lt).cells0
                  exact yields_load rfl hC rfl Tryd.underlying34 rfl (by kernel_rfl) hce ⟨rfl, ExtB.refl _⟩
                intro v Wj hv
                obtain rfl : v = .agg ce.toArray := hv
                simp only [Act.put, List.setIfInBounds_toArray, List.set_cons_zero, List.set_cons_succ]
                repeat (refine sqw_quiet rfl rfl (ExtB.refl _) ?_; go_big_quiet_step (fail); refine wpQuiet_nil ?_)
                refine sqw_postY rfl rfl rfl ?_ ?_
                · intro W1 hb hf
                  have hbw1 := hbw.trans (Below.mono hb hzr)
                  refine yields_call rfl (by kernel_rfl) rfl rfl ((ssum_any Y _ He.out (by omega) W1 (HK1.out.below hbw1 h1) (by have := hbw1.size; omega)).mono ?_)
                  rintro e w' ⟨rfl, h2⟩
                  exact ⟨_, rfl, rfl, h2⟩
                intro v Wj hv
                obtain rfl : v = .agg ((sha (Y)).map byv).toArray := hv
                simp only [Act.put, List.setIfInBounds_toArray, List.set_cons_zero, List.set_cons_succ]
                repeat (refine sqw_quiet rfl rfl (ExtB.refl _) ?_; go_big_quiet_step (fail); refine wpQuiet_nil ?_)
                refine sqw_postY rfl rfl rfl ?_ ?_
                · intro W1 hb hf
                  exact yields_str_bytes (bs := Y) rfl rfl Tryd.underlying9 Tryd.underlying22 Tryd.underlying5 (by omega) fun v w' h1 h2 _ => ⟨h1, h2⟩
                intro v Wj hv
                clear hv
                simp only [Act.put, List.setIfInBounds_toArray, List.set_cons_zero, List.set_cons_succ]
                repeat (refine sqw_quiet rfl rfl (ExtB.refl _) ?_; go_big_quiet_step (fail); refine wpQuiet_nil ?_)
                refine sqw_postY rfl rfl rfl ?_ ?_
                · intro W1 hb hf
                  have hbw1 := hbw.trans (Below.mono hb hzr)
                  have p13 : Sl W1 1 v (Y).length ((Y).map byv) := hf 13 80 (by kernel_rfl) rfl rfl (fun o h => by obtain rfl := Option.some.inj h; rfl)
                  obtain ⟨sx, cx, rfl⟩ := sl_slice p13
                  refine yields_call rfl (by kernel_rfl) rfl rfl ((rsum_any (Y) sx cx W1 p13 (by omega) (HK.out.below hbw1 (by omega)) (by have := hbw1.size; omega)).mono ?_)
                  rintro e w' ⟨rfl, h2⟩
                  exact ⟨_, rfl, rfl, h2⟩
                intro v Wj hv
                obtain rfl : v = .agg ((sha (Y)).map byv).toArray := hv
                simp only [Act.put, List.setIfInBounds_toArray, List.set_cons_zero, List.set_cons_succ]
                repeat (refine sqw_quiet rfl rfl (ExtB.refl _) ?_; go_big_quiet_step (fail); refine wpQuiet_nil ?_)
                refine sqw_postY rfl rfl rfl ?_ ?_
                · intro W1 hb hf
                  refine yields_value (v := .bool true) (w' := W1) ?_ ⟨rfl, ExtB.refl _⟩
                  exact eq24_exec rfl rfl rfl (sha_length (Y)) W1
                intro v Wj hv
                obtain rfl : v = .bool true := hv
                simp only [Act.put, List.setIfInBounds_toArray, List.set_cons_zero, List.set_cons_succ]
                repeat (refine sqw_quiet rfl rfl (ExtB.refl _) ?_; go_big_quiet_step (fail); refine wpQuiet_nil ?_)
                refine sqw_postY rfl rfl rfl ?_ ?_
                · intro W1 hb hf
                  have hC := (hF.below hb hF.lt).cells0
                  exact yields_load rfl hC rfl Tryd.underlying34 rfl (by kernel_rfl) hcf ⟨rfl, ExtB.refl _⟩
                intro v Wj hv
                obtain rfl : v = .agg cf.toArray := hv
                simp only [Act.put, List.setIfInBounds_toArray, List.set_cons_zero, List.set_cons_succ]
                repeat (refine sqw_quiet rfl rfl (ExtB.refl _) ?_; go_big_quiet_step (fail); refine wpQuiet_nil ?_)
                refine sqw_postY rfl rfl rfl ?_ ?_
                · intro W1 hb hf
                  have hbw1 := hbw.trans (Below.mono hb hzr)
                  refine yields_call rfl (by kernel_rfl) rfl rfl ((ssum_any (Y ++ o) _ Hf.out (by omega) W1 (HK1.out.below hbw1 h1) (by have := hbw1.size; omega)).mono ?_)
                  rintro e w' ⟨rfl, h2⟩
                  exact ⟨_, rfl, rfl, h2⟩
                intro v Wj hv
                obtain rfl : v = .agg ((sha (Y ++ o)).map byv).toArray := hv
                simp only [Act.put, List.setIfInBounds_toArray, List.set_cons_zero, List.set_cons_succ]
                repeat (refine sqw_quiet rfl rfl (ExtB.refl _) ?_; go_big_quiet_step (fail); refine wpQuiet_nil ?_)
                refine sqw_postY rfl rfl rfl ?_ ?_
                · intro W1 hb hf
                  exact yields_str_bytes (bs := Y ++ o) rfl rfl Tryd.underlying9 Tryd.underlying22 Tryd.underlying5 (by omega) fun v w' h1 h2 _ => ⟨h1, h2⟩
                intro v Wj hv
                clear hv
                simp only [Act.put, List.setIfInBounds_toArray, List.set_cons_zero, List.set_cons_succ]
                repeat (refine sqw_quiet rfl rfl (ExtB.refl _) ?_; go_big_quiet_step (fail); refine wpQuiet_nil ?_)
                refine sqw_postY rfl rfl rfl ?_ ?_
                · intro W1 hb hf
                  have hbw1 := hbw.trans (Below.mono hb hzr)
                  have p23 : Sl W1 1 v (Y ++ o).length ((Y ++ o).map byv) := hf 23 90 (by kernel_rfl) rfl rfl (fun o h => by obtain rfl := Option.some.inj h; rfl)
                  obtain ⟨sx, cx, rfl⟩ := sl_slice p23
                  refine yields_call rfl (by kernel_rfl) rfl rfl ((rsum_any (Y ++ o) sx cx W1 p23 (by omega) (HK.out.below hbw1 (by omega)) (by have := hbw1.size; omega)).mono ?_)
                  rintro e w' ⟨rfl, h2⟩
                  exact ⟨_, rfl, rfl, h2⟩
                intro v Wj hv
                obtain rfl : v = .agg ((sha (Y ++ o)).map byv).toArray := hv
                simp only [Act.put, List.setIfInBounds_toArray, List.set_cons_zero, List.set_cons_succ]
                repeat (refine sqw_quiet rfl rfl (ExtB.refl _) ?_; go_big_quiet_step (fail); refine wpQuiet_nil ?_)
                refine sqw_postY rfl rfl rfl ?_ ?_
                · intro W1 hb hf
                  refine yields_value (v := .bool true) (w' := W1) ?_ ⟨rfl, ExtB.refl _⟩
                  exact eq24_exec rfl rfl rfl (sha_length (Y ++ o)) W1
                intro v Wj hv
                obtain rfl : v = .bool true := hv
                simp only [Act.put, List.setIfInBounds_toArray, List.set_cons_zero, List.set_cons_succ]
                repeat (refine sqw_quiet rfl rfl (ExtB.refl _) ?_; go_big_quiet_step (fail); refine wpQuiet_nil ?_)
                refine sqw_postY rfl rfl rfl ?_ ?_
                · intro W1 hb hf
                  have hC := (hB.below hb hB.lt).cells0
                  exact yields_load rfl hC rfl Tryd.underlying34 rfl (by kernel_rfl) hcl ⟨rfl, ExtB.refl _⟩
                intro v Wj hv
                obtain rfl : v = .agg cs.toArray := hv
                simp only [Act.put, List.setIfInBounds_toArray, List.set_cons_zero, List.set_cons_succ]
                repeat (refine sqw_quiet rfl rfl (ExtB.refl _) ?_; go_big_quiet_step (fail); refine wpQuiet_nil ?_)
                refine sqw_postY rfl rfl rfl ?_ ?_
                · intro W1 hb hf
                  have hbw1 := hbw.trans (Below.mono hb hzr)
                  refine yields_call rfl (by kernel_rfl) rfl rfl ((ssum_any X _ Hs.out (by omega) W1 (HK1.out.below hbw1 h1) (by have := hbw1.size; omega)).mono ?_)
                  rintro e w' ⟨rfl, h2⟩
                  exact ⟨_, rfl, rfl, h2⟩
                intro v Wj hv
                obtain rfl : v = .agg ((sha (X)).map byv).toArray := hv
                simp only [Act.put, List.setIfInBounds_toArray, List.set_cons_zero, List.set_cons_succ]
                repeat (refine sqw_quiet rfl rfl (ExtB.refl _) ?_; go_big_quiet_step (fail); refine wpQuiet_nil ?_)
                refine sqw_postY rfl rfl rfl ?_ ?_
                · intro W1 hb hf
                  exact yields_str_bytes (bs := X) rfl rfl Tryd.underlying9 Tryd.underlying22 Tryd.underlying5 (by omega) fun v w' h1 h2 _ => ⟨h1, h2⟩
                intro v Wj hv
                clear hv
                simp only [Act.put, List.setIfInBounds_toArray, List.set_cons_zero, List.set_cons_succ]
                repeat (refine sqw_quiet rfl rfl (ExtB.refl _) ?_; go_big_quiet_step (fail); refine wpQuiet_nil ?_)
                refine sqw_postY rfl rfl rfl ?_ ?_
                · intro W1 hb hf
                  have hbw1 := hbw.trans (Below.mono hb hzr)
                  have p31 : Sl W1 1 v (X).length ((X).map byv) := hf 31 98 (by kernel_rfl) rfl rfl (fun o h => by obtain rfl := Option.some.inj h; rfl)
                  obtain ⟨sx, cx, rfl⟩ := sl_slice p31
                  refine yields_call rfl (by kernel_rfl) rfl rfl ((hsum_any (X) sx cx W1 p31 (by omega) (HK1.out.below hbw1 (by omega)) (by have := hbw1.size; omega)).mono ?_)
                  rintro e w' ⟨rfl, h2⟩
                  exact ⟨_, rfl, rfl, h2⟩
                intro v Wj hv
                obtain rfl : v = .agg ((sha (X)).map byv).toArray := hv
                simp only [Act.put, List.setIfInBounds_toArray, List.set_cons_zero, List.set_cons_succ]
                repeat (refine sqw_quiet rfl rfl (ExtB.refl _) ?_; go_big_quiet_step (fail); refine wpQuiet_nil ?_)
                refine sqw_postY rfl rfl rfl ?_ ?_
                · intro W1 hb hf
                  refine yields_value (v := .bool true) (w' := W1) ?_ ⟨rfl, ExtB.refl _⟩
                  exact eq24_exec rfl rfl rfl (sha_length (X)) W1
                intro v Wj hv
                obtain rfl : v = .bool true := hv
                simp only [Act.put, List.setIfInBounds_toArray, List.set_cons_zero, List.set_cons_succ]
                repeat (refine sqw_quiet rfl rfl (ExtB.refl _) ?_; go_big_quiet_step (fail); refine wpQuiet_nil ?_)
                intro w7 hb7 _
                refine wpList_nil ?_
                go_wp2
                go_ret
                exact ⟨rfl, hbw.trans (Below.mono hb7 hzr)⟩
    · go_enter Tryd.func4, Tryd.ntmps4
      go_wp2_with (first | (go_at_call 10; refine (sanity_any w HK1.out h1).mono ?_; rintro e w1 ⟨rfl, hb1⟩; have hz1 := hb1.size) | (go_at_call 13; refine (HF.out w1 (HSL.out.below hb1)).mono ?_; rintro e wx ⟨rfl, rfl⟩))
      go_ret
      exact ⟨rfl, hb1⟩
  · have hff : fewB l = false := by simpa using hfb
    rw [hff] at hfew
    have HF := Lib.hid hfew
    clear hfew hff hfb
    go_enter Tryd.func4, Tryd.ntmps4
    go_wp2_with (first | (go_at_call 10; refine (sanity_any w HK1.out h1).mono ?_; rintro e w1 ⟨rfl, hb1⟩) | (go_at_call 13; refine (HF.out _ (HSL.out.below hb1)).mono ?_; rintro e wx ⟨rfl, rfl⟩))
    go_ret
    exact ⟨rfl, hb1⟩
end Go.Proofs.YtcdgpkhfflehjaaDoor
