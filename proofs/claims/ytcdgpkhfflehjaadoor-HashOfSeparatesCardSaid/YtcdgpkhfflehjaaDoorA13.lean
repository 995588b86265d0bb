/- The walk over Mac. -/
import Derived.Test.YtcdgpkhfflehjaaDoorA12
namespace Go.Proofs.YtcdgpkhfflehjaaDoor
open Go.RowKit Go.Sha Go.Own
attribute [local go_sem high] op_add op_xor op_and op_or op_not op_shl op_shr op_shl_lit op_shr_lit byte_mod op_str_eql op_str_neq
attribute [local go_sem] setCell_twice str_size
def macKey (k : List UInt8) : List UInt8 := if 64 < k.length then sha k else k
theorem macKey_len (k : List UInt8) : (macKey k).length ≤ 64 := by
  unfold macKey; split
  · rw [sha_length]; omega
  · omega
def macF (k m : List UInt8) : List UInt8 := sha (xorB 92 (pad64 (macKey k)) ++ sha (xorB 54 (pad64 (macKey k)) ++ m))
theorem mac_any (k m : List UInt8) (hk : k.length ≤ 100000) (hm : m.length ≤ 100000) (w : World) (hK : Cells w 1 0 (Kt.map U)) (h1 : 1 < w.heap.size) :
    Calls Tryd.prog 18 #[str k, str m] w fun e w' => e = .returned (str (macF k m)) ∧ Below w.heap.size w w' := by
  have HK := Lib.hid hK; clear hK
  go_enter Tryd.func18, Tryd.ntmps18
  go_upto_if 11 with fail
  go_cut [5] (fun v5 wr => Blk wr w.heap.size [str (macKey k)] 9 ∧ Below w.heap.size w wr)
  case first =>
    have hb0 : Blk (w.alloc (.cells #[str k] 9)) w.heap.size [str k] 9 := Blk.new _ _ _
    by_cases hk64 : 64 < k.length
    · have ek : macKey k = sha k := by simp [macKey, hk64]
      have hl6 : ((sha k).map byv).length = 32 := by simp [sha_length]
      obtain ⟨v, w1, hcv, hsl, hb1, _⟩ := run_str_bytes (P := Tryd.prog) (w := w.alloc (.cells #[str k] 9)) (src := 9) (dst := 22) (e := 5) Tryd.underlying9 Tryd.underlying22 Tryd.underlying5 k (by omega)
      obtain ⟨sa, cap, rfl⟩ : ∃ sa cap, v = .slice sa k.length cap := by
        obtain ⟨_, ⟨rfl, h⟩ | ⟨b, off, cap, rfl, _⟩⟩ := hsl
        · exact ⟨none, 0, by rw [h]⟩
        · exact ⟨_, _, rfl⟩
      have HSL := Lib.hid hsl; clear hsl
      have hbw1 : Below w.heap.size w w1 := ((Below.refl _ _).alloc (Nat.le_refl _) _).trans (hb1.mono (by simp))
      have hz1 := hb1.size
      simp at hz1
      go_wp2_with (first | (refine wpList_store_blk (ty := 24) (n := 32) (vs := (sha k).map byv) (Blk.new _ _ 24) rfl rfl rfl rfl rfl (by kernel_rfl) hl6 (by simp) (bytes_oneCell _) ?_) | (go_at_call 11; refine (hsum_any k sa cap w1 HSL.out (by omega) (HK.out.below hbw1 h1) (by omega)).mono ?_; rintro e w2 ⟨rfl, hb2⟩))
      intro w9 hb9 ho9
      have hz2 := hb2.size
      have hbox : Blk w9 w.heap.size [str k] 9 := ho9.blk (by omega) (((hb0.below hb1 (by simp)).below hb2 (by omega)).alloc _)
      have hbw9 : Below w.heap.size w w9 := ho9.below ((hbw1.trans (hb2.mono (by omega))).alloc (by omega) _) (by omega)
      have hcv2 := conv22 w9 (.slice (some ⟨w2.heap.size, 0, none⟩) 32 32) (sha k) (by rw [sha_length]; exact ⟨by simp [sha_length], .inr ⟨_, 0, 32, rfl, Nat.le_refl _, by decide, hb9.cells0, hb9.lt⟩⟩)
      have cb := hbox.cell (i := 0) rfl
      have fb := hbox.frozen
      go_wp2
      go_meet
      case rel => 
        rw [ek]
        exact ⟨hbox.set 0 _, hbw9.setCell (Nat.le_refl _) _⟩
    · have ek : macKey k = k := by simp [macKey, hk64]
      go_wp2
      go_meet
      case rel => rw [ek]; exact ⟨hb0, (Below.refl _ _).alloc (Nat.le_refl _) _⟩
  case rest =>
    obtain ⟨hbox, hbw⟩ := hcut
    have hz := hbw.size
    obtain ⟨P, HP⟩ : ∃ P, Hid (P = macKey k) := ⟨_, rfl⟩
    have hP : P.length ≤ 64 := by rw [HP.out]; exact macKey_len k
    rw [← HP.out] at hbox
    have hPl : (pad64 P).length = 64 := by simp [pad64]; omega
    have hXl : ∀ b, (xorB b (pad64 P)).length = 64 := fun b => by simp [xorB, hPl]
    have cw := hbox.cell (i := 0) rfl
    go_wp2_with (first | (go_at_call 14; refine (begin_any wc).mono ?_; rintro e w1 ⟨cs1, rfl, hs1, hb1⟩))
    have hbw1 := hbw.trans (hb1.mono hz)
    have hz1 := hb1.size
    have hbox1 := hbox.below hb1 hbox.lt
    refine (mac1_any P hP 54 w.heap.size w1 hbox1 hbox1.lt).mono ?_
    rintro e w2 ⟨rfl, hb2⟩
    have hbw2 := hbw1.trans (hb2.mono (by omega))
    have hz2 := hb2.size
    have hbox2 := hbox1.below hb2 hbox1.lt
    obtain ⟨X, HX⟩ : ∃ X, Hid (X = xorB 54 (pad64 P)) := ⟨_, rfl⟩
    have hX : X.length = 64 := by rw [HX.out]; exact hXl 54
    rw [← HX.out]
    have hla : ∀ l : List UInt8, ((sha l).map byv).length = 32 := fun l => by simp [sha_length]
    go_wp2_with (first | (refine wpList_store_blk (ty := 24) (n := 32) (vs := (sha (X ++ m)).map byv) (Blk.new _ _ 24) rfl rfl rfl rfl rfl (by kernel_rfl) (hla _) (by simp) (bytes_oneCell _) ?_) | (go_at_call 15; refine (add_any _ m cs2 hs2 (by simp; omega) w3 (HK.out.below hbw3 h1) (by omega)).mono ?_; rintro e w4 ⟨cs3, rfl, hs3, hb4⟩; have hbw4 := hbw3.trans (hb4.mono (by omega)); have hz4 := hb4.size) | (go_at_call 15; refine (add_any [] X cs1 hs1 (by simp; omega) w2 (HK.out.below hbw2 h1) (by omega)).mono ?_; rintro e w3 ⟨cs2, rfl, hs2, hb3⟩; have hbw3 := hbw2.trans (hb3.mono (by omega)); have hz3 := hb3.size) | (go_at_call 17; refine (ssum_any _ cs3 hs3 (by simp; omega) w4 (HK.out.below hbw4 h1) (by omega)).mono ?_; rintro e w5 ⟨rfl, hb5⟩; have hbw5 := hbw4.trans (hb5.mono (by omega)); have hz5 := hb5.size))
    intro w6 hb6 ho6
    have hlt2 := hbox2.lt
    have hbox6 : Blk w6 w.heap.size [str P] 9 := ho6.blk (by omega) (((((hbox2.below hb3 (by omega)).below hb4 (by omega)).below hb5 (by omega)).alloc _))
    have hbw6 : Below w.heap.size w w6 := ho6.below (hbw5.alloc (by omega) _) (by omega)
    clear hb1 hb2 hb3 hb4 hb5 ho6 hbw1 hbw2 hbw3 hbw4 hbw5 hs1 hs2 hs3 hbox hbox1 hbox2 cw
    have hb6' : Blk w6 w5.heap.size ((sha (X ++ m)).map byv) 24 := hb6
    obtain ⟨S, HS⟩ : ∃ S, Hid (S = sha (X ++ m)) := ⟨_, rfl⟩
    have hS : S.length = 32 := by rw [HS.out, sha_length]
    rw [← HS.out] at hb6'
    obtain ⟨Y, HY⟩ : ∃ Y, Hid (Y = xorB 92 (pad64 P)) := ⟨_, rfl⟩
    have hY : Y.length = 64 := by rw [HY.out]; exact hXl 92
    have hlt5 := hb6'.lt
    have hlt6 := hbox6.lt
    go_wp2
    have hKw : ∀ w7, Below w6.heap.size w6.drew w7 → Cells w7 1 0 (Kt.map U) ∧ 1 < w7.heap.size ∧ w6.heap.size ≤ w7.heap.size ∧ Below w6.heap.size w6 w7 := by
      intro w7 hb
      have h := (Below.refl w6.heap.size w6).drew.trans hb
      have hs := h.size
      exact ⟨HK.out.below (hbw6.trans (h.mono (by omega))) h1, by omega, hs, h⟩
    refine wp_region_rg' 9 (fun i v W => match i with
      | 0 => ∃ cs, v = .agg cs.toArray ∧ StreamOf [] cs
      | 1 => v = .func (.func 31) #[] #[.pointer (some ⟨w.heap.size, 0, none⟩)]
      | 2 => v = str Y
      | 3 => ∃ cs, v = .agg cs.toArray ∧ StreamOf Y cs
      | 4 => v = .slice (some ⟨w5.heap.size, 0, none⟩) 32 32
      | 5 => v = str S
      | 6 => ∃ cs, v = .agg cs.toArray ∧ StreamOf (Y ++ S) cs
      | 7 => v = .agg ((sha (Y ++ S)).map byv).toArray
      | 8 => ∃ g, v = .pointer (some ⟨g, 0, none⟩) ∧ Blk W g zero24 24 ∧ w6.heap.size ≤ g
      | _ => True) (by kernel_rfl) (by kernel_rfl) ?stable ?hop ?hend
    case stable =>
      intro i v W W' h hb
      match i, h with
      | 8, ⟨g, h1, h2, h3⟩ => exact ⟨g, h1, h2.below hb h2.lt, h3⟩
      | 0, h => exact h
      | 1, h => exact h
      | 2, h => exact h
      | 3, h => exact h
      | 4, h => exact h
      | 5, h => exact h
      | 6, h => exact h
      | 7, h => exact h
      | _ + 9, h => exact h
    case hop =>
      intro i hi
      match i, hi with
      | 0, _ =>
        intro o a1 w7 ho hb hf hp
        obtain rfl := Option.some.inj ho.symm
        refine owes_call (f := 14) (args := #[]) ?_ ?_
        · go_simp
        · refine (begin_any w7).mono ?_
          rintro e w8 ⟨cs, rfl, h1, h2⟩
          exact ⟨_, rfl, ⟨cs, rfl, h1⟩, h2⟩
      | 1, _ =>
        intro o a1 w7 ho hb hf hp
        obtain rfl := Option.some.inj ho.symm
        have f6 : a1.tmps.getD 6 undef = .func (.func 31) #[] #[.pointer (some ⟨w.heap.size, 0, none⟩)] := hf 6 (by kernel_rfl)
        simp only [Array.getD_eq_getD_getElem?] at f6
        refine owes_value (v := .func (.func 31) #[] #[.pointer (some ⟨w.heap.size, 0, none⟩)]) (w' := w7) ?_ rfl (Below.refl _ _)
        go_simp
      | 2, _ =>
        intro o a1 w7 ho hb hf hp
        obtain rfl := Option.some.inj ho.symm
        have p1 : a1.tmps.getD 26 undef = .func (.func 31) #[] #[.pointer (some ⟨w.heap.size, 0, none⟩)] := hp 1 26 (by kernel_rfl) rfl
        simp only [Array.getD_eq_getD_getElem?] at p1
        have hbx : Blk w7 w.heap.size [str P] 9 := hbox6.below (hKw w7 hb).2.2.2 hlt6
        refine owes_call (f := 31) (args := #[byv 92, .pointer (some ⟨w.heap.size, 0, none⟩)]) ?_ ?_
        · go_simp
        · refine (mac1_any P hP 92 w.heap.size w7 hbx hbx.lt).mono ?_
          rintro e w8 ⟨rfl, h2⟩
          exact ⟨_, rfl, (congrArg (fun l => str l) HY.out.symm : str (xorB 92 (pad64 P)) = str Y), h2⟩
      | 3, _ =>
        intro o a1 w7 ho hb hf hp
        obtain rfl := Option.some.inj ho.symm
        obtain ⟨cs, p0, hs0⟩ := hp 0 25 (by kernel_rfl) rfl
        have p2 : a1.tmps.getD 27 undef = str Y := hp 2 27 (by kernel_rfl) rfl
        simp only [Array.getD_eq_getD_getElem?] at p0 p2
        refine owes_call (f := 15) (args := #[.agg cs.toArray, str Y]) ?_ ?_
        · go_simp
        · refine (add_any [] Y cs hs0 (by simp; omega) w7 (hKw w7 hb).1 (hKw w7 hb).2.1).mono ?_
          rintro e w8 ⟨cs', rfl, h1, h2⟩
          exact ⟨_, rfl, ⟨cs', rfl, h1⟩, h2⟩
      | 4, _ =>
        intro o a1 w7 ho hb hf hp
        obtain rfl := Option.some.inj ho.symm
        have f7 : a1.tmps.getD 7 undef = .pointer (some ⟨w5.heap.size, 0, none⟩) := hf 7 (by kernel_rfl)
        simp only [Array.getD_eq_getD_getElem?] at f7
        have cb := (hb6'.below (hKw w7 hb).2.2.2 hlt5).cell (i := 0) (v := byv (S.getD 0 0)) (by simp [show 0 < S.length by omega])
        refine owes_value (v := .slice (some ⟨w5.heap.size, 0, none⟩) 32 32) (w' := w7) ?_ rfl (Below.refl _ _)
        go_simp
      | 5, _ =>
        intro o a1 w7 ho hb hf hp
        obtain rfl := Option.some.inj ho.symm
        have p4 : a1.tmps.getD 29 undef = .slice (some ⟨w5.heap.size, 0, none⟩) 32 32 := hp 4 29 (by kernel_rfl) rfl
        simp only [Array.getD_eq_getD_getElem?] at p4
        have hb7 := hb6'.below (hKw w7 hb).2.2.2 hlt5
        have hcv := conv22 w7 (.slice (some ⟨w5.heap.size, 0, none⟩) 32 32) S (by rw [hS]; exact ⟨by simp [hS], .inr ⟨_, 0, 32, rfl, Nat.le_refl _, by decide, hb7.cells0, hb7.lt⟩⟩)
        refine owes_value (v := str S) (w' := w7) ?_ rfl (Below.refl _ _)
        go_simp
      | 6, _ =>
        intro o a1 w7 ho hb hf hp
        obtain rfl := Option.some.inj ho.symm
        obtain ⟨cs, p3, hs0⟩ := hp 3 28 (by kernel_rfl) rfl
        have p5 : a1.tmps.getD 30 undef = str S := hp 5 30 (by kernel_rfl) rfl
        simp only [Array.getD_eq_getD_getElem?] at p3 p5
        refine owes_call (f := 15) (args := #[.agg cs.toArray, str S]) ?_ ?_
        · go_simp
        · refine (add_any Y S cs hs0 (by omega) w7 (hKw w7 hb).1 (hKw w7 hb).2.1).mono ?_
          rintro e w8 ⟨cs', rfl, h1, h2⟩
          exact ⟨_, rfl, ⟨cs', rfl, h1⟩, h2⟩
      | 7, _ =>
        intro o a1 w7 ho hb hf hp
        obtain rfl := Option.some.inj ho.symm
        obtain ⟨cs, p6, hs0⟩ := hp 6 31 (by kernel_rfl) rfl
        simp only [Array.getD_eq_getD_getElem?] at p6
        refine owes_call (f := 17) (args := #[.agg cs.toArray]) ?_ ?_
        · go_simp
        · refine (ssum_any (Y ++ S) cs hs0 (by simp; omega) w7 (hKw w7 hb).1 (hKw w7 hb).2.1).mono ?_
          rintro e w8 ⟨rfl, h2⟩
          exact ⟨_, rfl, rfl, h2⟩
      | 8, _ =>
        intro o a1 w7 ho hb hf hp
        obtain rfl := Option.some.inj ho.symm
        refine owes_value (v := .pointer (some ⟨w7.heap.size, 0, none⟩)) (w' := w7.alloc (.cells zero24.toArray 24)) ?_ ⟨w7.heap.size, rfl, Blk.new _ _ _, (hKw w7 hb).2.2.1⟩ ((Below.refl _ _).alloc (Nat.le_refl _) _)
        have hz24 := zeroValue24 w7
        go_simp
    case hend =>
      intro vs w7 hb hp
      have p7 : vs 7 = .agg ((sha (Y ++ S)).map byv).toArray := hp 7 (by omega)
      obtain ⟨g, p8, hB8, hg8⟩ : ∃ g, vs 8 = .pointer (some ⟨g, 0, none⟩) ∧ Blk w7 g zero24 24 ∧ w6.heap.size ≤ g := hp 8 (by omega)
      obtain ⟨_, _, hs7, hb7⟩ := hKw w7 hb
      simp only [putAll, List.drop_succ_cons, List.drop_zero, p7, p8, List.getElem?_cons_zero, List.getElem?_cons_succ, Option.bind_some, Act.put, List.setIfInBounds_toArray, List.set_cons_zero, List.set_cons_succ]
      clear hp
      go_wp2_with (refine wpList_store_blk (ty := 24) (n := 32) (vs := (sha (Y ++ S)).map byv) hB8 rfl rfl rfl rfl rfl (by kernel_rfl) (hla _) (by simp [zero24]) (bytes_oneCell _) ?_)
      intro w9 hb9 ho9
      have hd9 : List.drop 32 zero24 = [] := by rfl
      have hb9' : Blk w9 g ((sha (Y ++ S)).map byv) 24 := by simpa [hd9] using hb9
      clear hb9 hd9
      have hcv := conv22 w9 (.slice (some ⟨g, 0, none⟩) 32 32) (sha (Y ++ S)) (by rw [sha_length]; exact ⟨by simp [sha_length], .inr ⟨_, 0, 32, rfl, Nat.le_refl _, by decide, hb9'.cells0, hb9'.lt⟩⟩)
      have hfin : Below w.heap.size w w9 := ho9.below (hbw6.trans (hb7.mono (by omega))) (by omega)
      go_wp2
      go_ret
      refine ⟨?_, hfin⟩
      rw [macF, ← HP.out, ← HX.out, ← HS.out, ← HY.out]
      rfl
end Go.Proofs.YtcdgpkhfflehjaaDoor
