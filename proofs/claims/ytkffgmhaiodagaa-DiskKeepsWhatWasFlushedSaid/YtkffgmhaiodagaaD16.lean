/- sanity holds. -/
import Derived.Test.YtkffgmhaiodagaaD15
import Derived.Test.YtkffgmhaiodagaaSqa
namespace Go.Proofs.Ytkffgmhaiodagaa
open Go.RowKit Go.Own Go.Disk Go.BigFrame
attribute [local irreducible] SqW
attribute [local go_sem] setCell_twice str_size op_str_eql str_append
/-- What the examples keep. -/
structure Sn (w0 w : World) (f : Ft) (d : DS) (g : Ft) (ia : Option Addr) (ic : Nat) (pa : Option Addr) (pc : Nat) : Prop where
  pd : At w0 w f d
  cl : At w0 w g x1
  gf : ∀ x ∈ g.all, x ∉ f.all
  im : Sl w 1 (.slice ia 2 ic) 2 ([zeros, zeros].map str)
  pe : Sl w 1 (.slice pa 1 pc) 1 ([0].map fun (j : Nat) => .int .i64 j)
  io : ∀ b, (Value.slice ia 2 ic).ownBlock = some b → b ∉ f.all
  po : ∀ b, (Value.slice pa 1 pc).ownBlock = some b → b ∉ f.all
theorem Sn.chg {w0 w w' : World} {f : Ft} {d d' : DS} {g : Ft} {ia : Option Addr} {ic : Nat} {pa : Option Addr} {pc : Nat} (h : Sn w0 w f d g ia ic pa pc) (hp : At w0 w' f d') (hc : Chg f.all w w') : Sn w0 w' f d' g ia ic pa pc :=
  ⟨hp, h.cl.other hc h.pd.own h.gf, h.gf, h.im.chg hc h.io, h.pe.chg hc h.po, h.io, h.po⟩
theorem Sn.far {w0 w w' : World} {f : Ft} {d : DS} {g : Ft} {ia : Option Addr} {ic : Nat} {pa : Option Addr} {pc : Nat} (h : Sn w0 w f d g ia ic pa pc) (hb : Below w.heap.size w w') : Sn w0 w' f d g ia ic pa pc :=
  ⟨h.pd.far hb, h.cl.far hb, h.gf, h.im.below hb, h.pe.below hb, h.io, h.po⟩
theorem index96 (W : World) : (Instr.index 9 (str sX) (.int .i64 0)).run Try.prog W = .ok (.int .u8 96) W := by kernel_rfl
theorem ext3 : (⟨zeros.toArray⟩ : ByteArray).extract 3 64 = ⟨(zeros.drop 3).toArray⟩ := by decide +kernel
set_option maxHeartbeats 4000000 in
set_option maxRecDepth 100000 in
theorem sanity_any (w : World) : Calls Try.prog 9 #[] w fun e w' => e = .returned (.bool true) ∧ Below w.heap.size w w' := by
  go_enter Try.func9, Try.ntmps9
  go_wp2_with fail
  refine (new2_any w).mono ?_
  rintro e w1 ⟨f, rfl, h0⟩
  go_wp2_with fail
  refine (full97 _).mono ?_
  rintro e w2 ⟨rfl, hb⟩
  replace h0 := h0.far hb
  clear hb
  go_wp2_with fail
  refine (write_at h0 ex1).mono ?_
  rintro e w3 ⟨rfl, h1, hx⟩
  clear h0 hx
  go_wp2_with fail
  refine (read_at h1 ex1r).mono ?_
  rintro e w4 ⟨rfl, h2, hb⟩
  clear hb h1
  have hfl := h2.pd.lt
  go_wp2_with fail
  refine (image_at h2 ex1i).mono ?_
  rintro e w5 ⟨ia, ic, rfl, hI, hIo, h3, hb⟩
  replace hIo : ∀ b, (Value.slice ia 2 ic).ownBlock = some b → b ∉ f.all := fun b h h' => absurd (hIo b h) (Nat.not_le.2 (hfl b h'))
  clear h2
  have hbz := hb.size
  clear hb
  go_wp2_with fail
  refine (pending_at h3 ex1p).mono ?_
  rintro e w6 ⟨pa, pc, rfl, hP, hPo, h4, hb⟩
  replace hPo : ∀ b, (Value.slice pa 1 pc).ownBlock = some b → b ∉ f.all := fun b h h' => absurd (hPo b h) (Nat.not_le.2 (Nat.lt_of_lt_of_le (hfl b h') hbz))
  replace hI := hI.below hb
  clear h3
  have hbz2 := Nat.le_trans hbz hb.size
  clear hb
  go_wp2_with fail
  refine (clone_at h4).mono ?_
  rintro e w7 ⟨g, rfl, hd, hc, hgo, hb⟩
  replace hI := hI.below hb
  replace hP := hP.below hb
  have hgf : ∀ x ∈ g.all, x ∉ f.all := fun x hx h' => absurd (hgo x hx) (Nat.not_le.2 (Nat.lt_of_lt_of_le (hfl x h') hbz2))
  have S : Sn w w7 f x1 g ia ic pa pc := ⟨hd, hc, hgf, hI, hP, hIo, hPo⟩
  clear hd hc hgf hI hP hIo hPo hgo h4 hb hbz hbz2 hfl
  go_wp2_with fail
  refine (mount_at (ps := [3]) (S.far (alloc_below w7 _)).pd (sl_new w7 #[.int .i64 3] 3 1 rfl (by decide)) (fun b hb hx => by have := S.pd.pd.lt b hx; have : w7.heap.size = b := by simpa [Value.ownBlock] using hb
                                                                                                                               omega) ex2).mono ?_
  rintro e w8 ⟨rfl, h, hc⟩
  replace S := (S.far (alloc_below w7 _)).chg h hc
  clear h hc
  go_wp2_with fail
  refine (read_at S.pd ex2r).mono ?_
  rintro e w9 ⟨rfl, _, hb⟩
  replace S := S.far hb
  clear hb
  go_wp2_with fail
  refine (full97 _).mono ?_
  rintro e w10 ⟨rfl, hb⟩
  replace S := S.far hb
  clear hb
  go_wp2_with fail
  refine (write_at S.pd ex3).mono ?_
  rintro e w11 ⟨rfl, h, hc⟩
  replace S := S.chg h hc
  clear h hc
  go_wp2_with fail
  refine (flush_at S.pd ex4).mono ?_
  rintro e w12 ⟨rfl, h, hc⟩
  replace S := S.chg h hc
  clear h hc
  go_wp2_with fail
  refine (rot_at S.pd ex5).mono ?_
  rintro e w13 ⟨rfl, h, hc⟩
  replace S := S.chg h hc
  clear h hc
  go_wp2_with fail
  refine (read_at S.pd ex5r).mono ?_
  rintro e w14 ⟨rfl, _, hb⟩
  replace S := S.far hb
  clear hb
  go_wp2_with fail
  refine (wear_at S.pd ex6).mono ?_
  rintro e w15 ⟨rfl, h, hc⟩
  replace S := S.chg h hc
  clear h hc
  go_wp2_with fail
  refine (trip_at S.pd (by decide) ex7).mono ?_
  rintro e w16 ⟨rfl, h, hc⟩
  replace S := S.chg h hc
  clear h hc
  go_wp2_with fail
  refine (full98 _).mono ?_
  rintro e w17 ⟨rfl, hb⟩
  replace S := S.far hb
  clear hb
  go_wp2_with fail
  refine (write_at S.pd ex8).mono ?_
  rintro e w18 ⟨rfl, h, hc⟩
  replace S := S.chg h hc
  clear h hc
  go_wp2_with fail
  refine (flush_at S.pd ex9).mono ?_
  rintro e w19 ⟨rfl, h, hc⟩
  replace S := S.chg h hc
  clear h hc
  go_wp2_with fail
  refine (read_at S.pd ex9r).mono ?_
  rintro e w20 ⟨rfl, _, hb⟩
  replace S := S.far hb
  clear hb
  go_wp2_with fail
  refine (new0_any _).mono ?_
  rintro e w21 ⟨rfl, rfl⟩
  go_wp2_with fail
  refine (read_at S.cl ex1r).mono ?_
  rintro e w22 ⟨rfl, _, hb⟩
  replace S := S.far hb
  clear hb
  go_wp2_with fail
  refine (worn_at S.pd ex9w).mono ?_
  rintro e w23 ⟨wa, wc, rfl, _, _, _, hb⟩
  replace S := S.far hb
  clear hb
  go_wp2_with fail
  have hzl : zeros.length = 64 := rfl
  have hE := ext3
  have hxl : sX.length = 64 := rfl
  have hs3 : 97 :: 97 :: 97 :: List.drop 3 zeros = s3 := ex3s
  have hix := fun W => index96 W
  obtain ⟨ib, io, rfl, _, _, hCi, hil⟩ := sl_cases S.im (by decide)
  obtain ⟨pb, po, rfl, _, _, hCp, hpl⟩ := sl_cases S.pe (by decide)
  simp only [List.append_eq, List.cons_append, List.nil_append]
  refine wp_region_sqA 68 [3, 9, 10, 16, 21, 41, 46, 54, 64] (fun i v W => match i with
    | 3 => v = str sA
    | 9 => v = str zeros
    | 10 => v = str zeros
    | 16 => v = .int .i64 0
    | 21 => v = str zeros
    | 41 => v = .bool false
    | 46 => v = .bool true
    | 54 => v = str sA
    | 64 => v = .int .i64 2
    | _ => True) (by kernel_rfl) (by kernel_rfl) (by kernel_rfl) ?stable ?main
  case stable =>
    intro i v W W' h hb
    match i, h with
    | 0, h => exact h
    | 1, h => exact h
    | 2, h => exact h
    | 3, h => exact h
    | 4, h => exact h
    | 5, h => exact h
    | 6, h => exact h
    | 7, h => exact h
    | 8, h => exact h
    | 9, h => exact h
    | 10, h => exact h
    | 11, h => exact h
    | 12, h => exact h
    | 13, h => exact h
    | 14, h => exact h
    | 15, h => exact h
    | 16, h => exact h
    | 17, h => exact h
    | 18, h => exact h
    | 19, h => exact h
    | 20, h => exact h
    | 21, h => exact h
    | 22, h => exact h
    | 23, h => exact h
    | 24, h => exact h
    | 25, h => exact h
    | 26, h => exact h
    | 27, h => exact h
    | 28, h => exact h
    | 29, h => exact h
    | 30, h => exact h
    | 31, h => exact h
    | 32, h => exact h
    | 33, h => exact h
    | 34, h => exact h
    | 35, h => exact h
    | 36, h => exact h
    | 37, h => exact h
    | 38, h => exact h
    | 39, h => exact h
    | 40, h => exact h
    | 41, h => exact h
    | 42, h => exact h
    | 43, h => exact h
    | 44, h => exact h
    | 45, h => exact h
    | 46, h => exact h
    | 47, h => exact h
    | 48, h => exact h
    | 49, h => exact h
    | 50, h => exact h
    | 51, h => exact h
    | 52, h => exact h
    | 53, h => exact h
    | 54, h => exact h
    | 55, h => exact h
    | 56, h => exact h
    | 57, h => exact h
    | 58, h => exact h
    | 59, h => exact h
    | 60, h => exact h
    | 61, h => exact h
    | 62, h => exact h
    | 63, h => exact h
    | 64, h => exact h
    | _ + 65, _ => exact trivial
  case main =>
    repeat (refine sqw_quiet rfl rfl (ExtB.refl _) ?_; go_big_quiet_step (fail); refine wpQuiet_nil ?_)
    refine sqw_postY rfl rfl rfl ?_ ?_
    · intro W1 hb hf
      exact yields_call rfl (by kernel_rfl) rfl rfl ((full97 W1).mono fun e w' ⟨h1, h2⟩ => ⟨_, h1, rfl, h2⟩)
    intro v Wj hv
    obtain rfl : v = str sA := hv
    simp only [Act.put, List.setIfInBounds_toArray, List.set_cons_zero, List.set_cons_succ]
    repeat (refine sqw_quiet rfl rfl (ExtB.refl _) ?_; go_big_quiet_step (fail); refine wpQuiet_nil ?_)
    refine sqw_postY rfl rfl rfl ?_ ?_
    · intro W1 hb hf
      have cx : W1.cell? ⟨ib, io, none⟩ = some (str zeros) := by have h := (hCi.below (ExtB.undrew hb) hil) 0 _ rfl; simpa using h
      refine yields_value (v := str zeros) (w' := W1) ?_ ⟨rfl, ExtB.refl _⟩
      go_simp
    intro v Wj hv
    obtain rfl : v = str zeros := hv
    simp only [Act.put, List.setIfInBounds_toArray, List.set_cons_zero, List.set_cons_succ]
    repeat (refine sqw_quiet rfl rfl (ExtB.refl _) ?_; go_big_quiet_step (fail); refine wpQuiet_nil ?_)
    refine sqw_postY rfl rfl rfl ?_ ?_
    · intro W1 hb hf
      exact yields_call rfl (by kernel_rfl) rfl rfl ((full0 W1).mono fun e w' ⟨h1, h2⟩ => ⟨_, h1, rfl, h2⟩)
    intro v Wj hv
    obtain rfl : v = str zeros := hv
    simp only [Act.put, List.setIfInBounds_toArray, List.set_cons_zero, List.set_cons_succ]
    repeat (refine sqw_quiet rfl rfl (ExtB.refl _) ?_; go_big_quiet_step (fail); refine wpQuiet_nil ?_)
    refine sqw_postY rfl rfl rfl ?_ ?_
    · intro W1 hb hf
      have cx : W1.cell? ⟨pb, po, none⟩ = some (.int .i64 0) := by have h := (hCp.below (ExtB.undrew hb) hpl) 0 _ rfl; simpa using h
      refine yields_value (v := .int .i64 0) (w' := W1) ?_ ⟨rfl, ExtB.refl _⟩
      go_simp
    intro v Wj hv
    obtain rfl : v = .int .i64 0 := hv
    simp only [Act.put, List.setIfInBounds_toArray, List.set_cons_zero, List.set_cons_succ]
    repeat (refine sqw_quiet rfl rfl (ExtB.refl _) ?_; go_big_quiet_step (fail); refine wpQuiet_nil ?_)
    refine sqw_postY rfl rfl rfl ?_ ?_
    · intro W1 hb hf
      exact yields_call rfl (by kernel_rfl) rfl rfl ((full0 W1).mono fun e w' ⟨h1, h2⟩ => ⟨_, h1, rfl, h2⟩)
    intro v Wj hv
    obtain rfl : v = str zeros := hv
    simp only [Act.put, List.setIfInBounds_toArray, List.set_cons_zero, List.set_cons_succ]
    repeat (refine sqw_quiet rfl rfl (ExtB.refl _) ?_; go_big_quiet_step (fail); refine wpQuiet_nil ?_)
    refine sqw_postY rfl rfl rfl ?_ ?_
    · intro W1 hb hf
      exact yields_call rfl (by kernel_rfl) rfl rfl ((up_at (S.far (ExtB.undrew hb)).pd).mono fun e w' ⟨h1, h2⟩ => ⟨_, h1, rfl, by rw [h2]; exact ExtB.refl _⟩)
    intro v Wj hv
    obtain rfl : v = .bool false := hv
    simp only [Act.put, List.setIfInBounds_toArray, List.set_cons_zero, List.set_cons_succ]
    repeat (refine sqw_quiet rfl rfl (ExtB.refl _) ?_; go_big_quiet_step (fail); refine wpQuiet_nil ?_)
    refine sqw_postY rfl rfl rfl ?_ ?_
    · intro W1 hb hf
      exact yields_call rfl (by kernel_rfl) rfl rfl ((up_at (S.far (ExtB.undrew hb)).cl).mono fun e w' ⟨h1, h2⟩ => ⟨_, h1, rfl, by rw [h2]; exact ExtB.refl _⟩)
    intro v Wj hv
    obtain rfl : v = .bool true := hv
    simp only [Act.put, List.setIfInBounds_toArray, List.set_cons_zero, List.set_cons_succ]
    repeat (refine sqw_quiet rfl rfl (ExtB.refl _) ?_; go_big_quiet_step (fail); refine wpQuiet_nil ?_)
    refine sqw_postY rfl rfl rfl ?_ ?_
    · intro W1 hb hf
      exact yields_call rfl (by kernel_rfl) rfl rfl ((full97 W1).mono fun e w' ⟨h1, h2⟩ => ⟨_, h1, rfl, h2⟩)
    intro v Wj hv
    obtain rfl : v = str sA := hv
    simp only [Act.put, List.setIfInBounds_toArray, List.set_cons_zero, List.set_cons_succ]
    repeat (refine sqw_quiet rfl rfl (ExtB.refl _) ?_; go_big_quiet_step (fail); refine wpQuiet_nil ?_)
    refine sqw_postY rfl rfl rfl ?_ ?_
    · intro W1 hb hf
      exact yields_call rfl (by kernel_rfl) rfl rfl ((len_at (S.far (ExtB.undrew hb)).pd).mono fun e w' ⟨h1, h2⟩ => ⟨_, h1, rfl, by rw [h2]; exact ExtB.refl _⟩)
    intro v Wj hv
    obtain rfl : v = .int .i64 2 := hv
    simp only [Act.put, List.setIfInBounds_toArray, List.set_cons_zero, List.set_cons_succ]
    repeat (refine sqw_quiet rfl rfl (ExtB.refl _) ?_; go_big_quiet_step (fail); refine wpQuiet_nil ?_)
    refine sqw_nil ?_
    intro w99 hb _
    have hb7 := ExtB.undrew hb
    go_wp2
    go_ret
    exact ⟨rfl, S.pd.below.trans (hb7.mono S.pd.below.size)⟩
end Go.Proofs.Ytkffgmhaiodagaa
