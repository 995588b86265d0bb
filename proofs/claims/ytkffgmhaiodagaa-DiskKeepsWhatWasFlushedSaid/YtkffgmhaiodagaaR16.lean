/- The walk over DiskKeepsWhatWasFlushed. -/
import Derived.Test.YtkffgmhaiodagaaR12
namespace Go.Own
theorem sl_notin {w : World} {n cap : Nat} {sa : Option Addr} {vs : List Value} {F : List Nat} (h : Sl w 1 (.slice sa n cap) n vs) (hF : ∀ y ∈ F, w.heap.size ≤ y) : ∀ b, (Value.slice sa n cap).ownBlock = some b → b ∉ F := by
  intro b hb hy
  have h1 := hF b hy
  obtain ⟨_, ⟨h2, _⟩ | ⟨b', off, cap, h2, _, _, _, h3⟩⟩ := h
  · rw [h2] at hb; cases hb
  · rw [h2] at hb
    have : b' = b := by simpa [Value.ownBlock] using hb
    omega
end Go.Own
namespace Go.Proofs.Ytkffgmhaiodagaa
open Go.RowKit Go.Own Go.Disk Go.BigFrame
theorem imageO (f : Ft) (d : DS) (w : World) (h : PD w f d) : Calls Try.prog 15 #[.pointer (some ⟨f.p, 0, none⟩)] w fun e w' => ∃ sa cap, e = .returned (.slice sa (aimage d.s).length cap) ∧ Sl w' 1 (.slice sa (aimage d.s).length cap) (aimage d.s).length ((aimage d.s).map str) ∧ (∀ b, (Value.slice sa (aimage d.s).length cap).ownBlock = some b → w.heap.size ≤ b) ∧ Below w.heap.size w w' :=
  (image_any f d w h).mono fun e w' ⟨v, h1, h2, h3, h4⟩ => by obtain ⟨sa, cap, rfl, h5⟩ := sl_texts h2; exact ⟨sa, cap, h1, h5, h3, h4⟩
theorem ScrAt.opfacts1 {w0 w : World} {f : Ft} {d : DS} {l : List Opm} {sa : Option Addr} {cap : Nat} (hs : ScrAt w0 (.slice sa l.length cap) l) (hB : At w0 w f d) {k : Nat} {x : Opm} (hx : l[k]? = some x) :
    ∃ b off, sa = some ⟨b, off, none⟩ ∧ Cells w b (off + k * 5) (opcells x) ∧ (x.o.picks ≠ [] → Sl w 1 (.slice x.sp x.o.picks.length x.pc) x.o.picks.length (x.o.picks.map fun z => .int .i64 z)) ∧ (x.o.picks ≠ [] → ∀ b, (Value.slice x.sp x.o.picks.length x.pc).ownBlock = some b → b ∉ f.all) ∧ (-9223372036854775808 ≤ x.o.i ∧ x.o.i ≤ 9223372036854775807) := by
  have hm : x ∈ l := List.mem_of_getElem? hx
  obtain ⟨b, off, cap', e0, hC, hlt⟩ := hs.cells hx
  injection e0 with e0
  exact ⟨b, off, e0, hC.below hB.below hlt, fun hne => (hs.pk x hm hne).below hB.below, ScrAt.pkown (w0 := w0) hs hm hB.own, hs.rng x hm⟩
attribute [local go_sem] setCell_twice str_size op_str_eql op_str_neq
attribute [local irreducible] SqC.SqW
set_option maxHeartbeats 6400000 in
set_option maxRecDepth 100000 in
theorem keeps_any (z : Int) (l : List Opm) (sa : Option Addr) (cap : Nat) (ps : List Int) (pa : Option Addr) (pc : Nat) (w : World) (hs : ScrAt w (.slice sa l.length cap) l) (hz : Sl w 1 (.slice pa ps.length pc) ps.length (ps.map fun z => .int .i64 z)) : Calls Try.prog 5 #[.int .i64 z, .slice sa l.length cap, .slice pa ps.length pc] w fun e w' => e = .returned (.bool true) ∧ Below w.heap.size w w' := by
  go_enter Try.func5, Try.ntmps5
  go_wp2_with fail
  refine (sanity_any w).mono ?_
  rintro e w1 ⟨rfl, hb1⟩
  by_cases hz : z < 1
  · go_wp2_with fail
    refine (start_bad z (.inl hz) w1).mono ?_
    rintro e w2 ⟨rfl, rfl⟩
    go_wp2
    go_ret
    exact ⟨rfl, hb1⟩
  · have hz1 : 1 ≤ z := by omega
    clear hz
    by_cases hz : 64 < z
    · go_wp2_with fail
      refine (start_bad z (.inr hz) w1).mono ?_
      rintro e w2 ⟨rfl, rfl⟩
      go_wp2
      go_ret
      exact ⟨rfl, hb1⟩
    · have hz2 : z ≤ 64 := by omega
      clear hz
      obtain ⟨n, rfl⟩ : ∃ n : Nat, z = n := ⟨z.toNat, by omega⟩
      go_wp2_with fail
      refine (start_any n (by omega) (by omega) w1).mono ?_
      rintro e w2 ⟨f, r, rfl, hB⟩
      have hB2 : Both w w2 f r (Disk.fresh n) := ⟨hB.pd, hB.rd, fun x hx => Nat.le_trans hb1.size (hB.fo x hx), fun x hx => Nat.le_trans hb1.size (hB.ro x hx), hB.dis, hb1.trans (hB.below.mono hb1.size)⟩
      clear hB hb1
      by_cases hl : 60 < l.length
      · have hl' : (60 : Int) < l.length := by omega
        go_wp2
        go_ret
        exact ⟨rfl, hB2.below⟩
      · have hl' : (l.length : Int) ≤ 60 := by omega
        clear hl
        have hA2 : At w w2 f (Disk.fresh n) := ⟨hB2.pd, hB2.fo, hB2.below⟩
        have hlf2 := hA2.pd.lt
        clear hB2
        have hmk := mk_strs n (by omega)
        go_wp2
        obtain ⟨wo, hwo⟩ : ∃ wo : World, wo = w2.alloc (.cells (Array.replicate n (str [])) 9) := ⟨_, rfl⟩
        have hbo : Below w2.heap.size w2 wo := by rw [hwo]; exact alloc_below _ _
        have hBo : Blk wo w2.heap.size (List.replicate n (str [])) 9 := by rw [hwo]; exact blk_make w2 n _ _
        obtain ⟨G, hGe⟩ : ∃ G, G = w2.heap.size := ⟨_, rfl⟩
        rw [← hwo]
        rw [← hGe] at hBo ⊢
        have hAo := hA2.far hbo
        have hGw : w.heap.size ≤ G := by rw [hGe]; exact hA2.below.size
        have hGf : G ∉ f.all := fun hx => by have := hlf2 G hx; omega
        clear hwo hbo hmk hA2 hlf2
        have HGE := Lib.hid hGe; clear hGe
        go_loopw [12] (fun c wr => ∃ k : Nat, k ≤ n ∧ c = .int .i64 k ∧ Blk wr G (List.replicate k (str zeros) ++ List.replicate (n - k) (str [])) 9 ∧ At w wr f (Disk.fresh n)) (fun c _ => n - (intOf c).toNat)
        case atStart => exact ⟨0, by omega, rfl, by simpa using hBo, hAo⟩
        case round =>
          obtain ⟨k, hk, rfl, hG, hA⟩ := hrel
          by_cases hkn : k < n
          · have hflt := hA.pd.lt
            go_wp2_with fail
            refine (full0 wr).mono ?_
            rintro e w3 ⟨rfl, hb3⟩
            have hG3 := hG.below hb3 hG.lt
            have hA3 := hA.far hb3
            have hfr := hG3.frozen
            have cG : w3.cell? ⟨G, k, none⟩ = some (str []) := by
              refine hG3.cell ?_
              rw [List.getElem?_append_right (by simp), List.length_replicate, Nat.sub_self, List.getElem?_replicate, if_pos (by omega)]
            have hG4 := hG3.set k (str zeros)
            have hA4 : At w (w3.setCell ⟨G, k, none⟩ (str zeros)) f (Disk.fresh n) := ⟨hA3.pd.chg ((Chg.refl [G] w3).set (a := ⟨G, k, none⟩) _ (by simp)) (by intro x hx; simp; intro e; exact hGf (e ▸ hx)), hA3.own, below_set hA3.below (Nat.le_refl _) hGw _ _⟩
            have hst : (List.replicate k (str zeros) ++ List.replicate (n - k) (str [])).set k (str zeros) = List.replicate (k + 1) (str zeros) ++ List.replicate (n - (k + 1)) (str []) := by
              have h1 := set_rep (List.replicate n (str zeros)) (str []) hkn (by simp)
              rw [List.take_replicate, List.take_replicate, Nat.min_eq_left (by omega), Nat.min_eq_left (by omega), List.getElem_replicate] at h1
              exact h1
            rw [hst] at hG4
            clear hG hA hb3 hst hflt hG3 hA3
            go_wp2
            go_roundw
            case rel => exact ⟨k + 1, by omega, by go_num, hG4, hA4⟩
            case measure => simp [intOf]; omega
          · obtain rfl : n = k := by omega
            rw [Nat.sub_self, List.replicate_zero, List.append_nil] at hG
            clear hBo hAo
            go_wp2
            go_loopw [13] (fun c wr => ∃ (k : Nat) (d : DS) (last : List (List UInt8)), k ≤ l.length ∧ c = .int .i64 k ∧ d.s.length = n ∧ At w wr f d ∧ Kp d last ∧ Blk wr G (last.map str) 9) (fun c _ => l.length - (intOf c).toNat)
            case atStart => exact ⟨0, _, _, by omega, rfl, by simp [Disk.fresh], hA, Kp.fresh _, by rw [List.map_replicate]; exact hG⟩
            case round =>
              clear hG hA
              obtain ⟨k, d, last, hk, rfl, hdl, hB, hK, hG⟩ := hrel
              have hlast := hK.len
              by_cases hkl : k < l.length
              · obtain ⟨x, hx⟩ : ∃ x, l[k]? = some x := ⟨l[k], by simp [hkl]⟩
                obtain ⟨b, off, rfl, hC1, hpk, hpn, hir⟩ := hs.opfacts1 hB hx
                have HX := Lib.hid hx; clear hx
                obtain ⟨⟨xk, xi, xb, xt, xp⟩, xsp, xpc⟩ := x
                dsimp only at hpk hpn hir
                by_cases h6 : xk = 6
                · subst h6
                  go_wp2_with (refine wpList_load_agg [.int .i64 6, .int .i64 xi, .int .i64 xb, str xt, .slice xsp xp.length xpc] hC1 rfl rfl rfl aggOp infoOp ?_)
                  have hA3 := hB.far (alloc_below wr (.cells #[.int .i64 6, .int .i64 xi, .int .i64 xb, str xt, .slice xsp xp.length xpc] 33))
                  have hG3 := hG.below (alloc_below wr (.cells #[.int .i64 6, .int .i64 xi, .int .i64 xb, str xt, .slice xsp xp.length xpc] 33)) hG.lt
                  go_roundw
                  case rel => exact ⟨k + 1, d, last, by omega, by go_num, hdl, hA3, hK, hG3⟩
                  case measure => simp [intOf]; omega
                · have n6 : (xk == 6) = false := by simpa using h6
                  by_cases h7 : xk = 7
                  · subst h7
                    go_wp2_with (refine wpList_load_agg [.int .i64 7, .int .i64 xi, .int .i64 xb, str xt, .slice xsp xp.length xpc] hC1 rfl rfl rfl aggOp infoOp ?_)
                    have hA3 := hB.far (alloc_below wr (.cells #[.int .i64 7, .int .i64 xi, .int .i64 xb, str xt, .slice xsp xp.length xpc] 33))
                    have hG3 := hG.below (alloc_below wr (.cells #[.int .i64 7, .int .i64 xi, .int .i64 xb, str xt, .slice xsp xp.length xpc] 33)) hG.lt
                    go_roundw
                    case rel => exact ⟨k + 1, d, last, by omega, by go_num, hdl, hA3, hK, hG3⟩
                    case measure => simp [intOf]; omega
                  · have n7 : (xk == 7) = false := by simpa using h7
                    by_cases h4 : xk = 4
                    · subst h4
                      go_wp2_with (refine wpList_load_agg [.int .i64 4, .int .i64 xi, .int .i64 xb, str xt, .slice xsp xp.length xpc] hC1 rfl rfl rfl aggOp infoOp ?_)
                      have hA3 := hB.far (alloc_below wr (.cells #[.int .i64 4, .int .i64 xi, .int .i64 xb, str xt, .slice xsp xp.length xpc] 33))
                      have hG3 := hG.below (alloc_below wr (.cells #[.int .i64 4, .int .i64 xi, .int .i64 xb, str xt, .slice xsp xp.length xpc] 33)) hG.lt
                      go_roundw
                      case rel => exact ⟨k + 1, d, last, by omega, by go_num, hdl, hA3, hK, hG3⟩
                      case measure => simp [intOf]; omega
                    · have n4 : (xk == 4) = false := by simpa using h4
                      by_cases h5 : xk = 5
                      · subst h5
                        go_wp2_with (refine wpList_load_agg [.int .i64 5, .int .i64 xi, .int .i64 xb, str xt, .slice xsp xp.length xpc] hC1 rfl rfl rfl aggOp infoOp ?_)
                        have hA3 := hB.far (alloc_below wr (.cells #[.int .i64 5, .int .i64 xi, .int .i64 xb, str xt, .slice xsp xp.length xpc] 33))
                        have hG3 := hG.below (alloc_below wr (.cells #[.int .i64 5, .int .i64 xi, .int .i64 xb, str xt, .slice xsp xp.length xpc] 33)) hG.lt
                        go_roundw
                        case rel => exact ⟨k + 1, d, last, by omega, by go_num, hdl, hA3, hK, hG3⟩
                        case measure => simp [intOf]; omega
                      · have n5 : (xk == 5) = false := by simpa using h5
                        obtain ⟨hK', hrange⟩ := hK.ado hB.pd.ok ⟨xk, xi, xb, xt, xp⟩ h6 h7 h4 h5
                        clear h6 h7 h4 h5
                        have hdo : ∀ W, PD W f d → (xp ≠ [] → Sl W 1 (.slice xsp xp.length xpc) xp.length (xp.map fun z => .int .i64 z)) → Calls Try.prog 11 #[.pointer (some ⟨f.p, 0, none⟩), .agg #[.int .i64 xk, .int .i64 xi, .int .i64 xb, str xt, .slice xsp xp.length xpc]] W fun e w' => e = .returned (.tuple #[str (ado d ⟨xk, xi, xb, xt, xp⟩).1.1, .int .i64 (ado d ⟨xk, xi, xb, xt, xp⟩).1.2]) ∧ PD w' f (ado d ⟨xk, xi, xb, xt, xp⟩).2 ∧ Chg f.all W w' :=
                          fun W h1 h2 => do_at ⟨⟨xk, xi, xb, xt, xp⟩, xsp, xpc⟩ W h1 hir h2 hpn
                        have hdl' := ado_len d ⟨xk, xi, xb, xt, xp⟩
                        obtain ⟨a, ha⟩ : ∃ a, a = ado d ⟨xk, xi, xb, xt, xp⟩ := ⟨_, rfl⟩
                        rw [← ha] at hK' hrange hdo hdl'
                        clear ha
                        obtain ⟨⟨rt, rc⟩, d'⟩ := a
                        dsimp only at hK' hrange hdo hdl'
                        rw [hdl] at hdl'
                        obtain ⟨w3, hw3⟩ : ∃ w3 : World, w3 = wr.alloc (.cells #[.int .i64 xk, .int .i64 xi, .int .i64 xb, str xt, .slice xsp xp.length xpc] 33) := ⟨_, rfl⟩
                        have hb3 : Below wr.heap.size wr w3 := by rw [hw3]; exact alloc_below _ _
                        have hX3 : Blk w3 wr.heap.size [.int .i64 xk, .int .i64 xi, .int .i64 xb, str xt, .slice xsp xp.length xpc] 33 := by rw [hw3]; exact Blk.new wr _ _
                        have hA3 := hB.far hb3
                        have hG3 := hG.below hb3 hG.lt
                        have hpk3 := fun hne => (hpk hne).below hb3
                        have hXf : wr.heap.size ∉ f.all := fun hx => absurd (hB.pd.lt _ hx) (Nat.lt_irrefl _)
                        have hXG : wr.heap.size ≠ G := fun e => absurd hG.lt (by omega)
                        have hxw : w.heap.size ≤ wr.heap.size := hB.below.size
                        have HK' := Lib.hid hK'; clear hK'
                        have HR := Lib.hid hrange; clear hrange
                        rw [hdl] at hlast
                        have HLA := Lib.hid hlast; clear hlast
                        clear hK hG hB
                        go_wp2_with (refine wpList_load_agg [.int .i64 xk, .int .i64 xi, .int .i64 xb, str xt, .slice xsp xp.length xpc] hC1 rfl rfl rfl aggOp infoOp ?_)
                        rw [← hw3]
                        clear hw3 hC1 hb3
                        refine (hdo w3 hA3.pd hpk3).mono ?_
                        rintro e w4 ⟨rfl, hP4, hc4⟩
                        have hA4 := hA3.chg hP4 hc4
                        have hX4 := hX3.chg hc4 hXf
                        have hG4 := hG3.chg hc4 hGf
                        have kz : w4.cell? ⟨wr.heap.size, 0, none⟩ = some (.int .i64 xk) := hX4.cell rfl
                        clear hdo hA3 hX3 hG3 hP4 hc4 hpk3 hpk hpn
                        by_cases h1 : xk = 1
                        · by_cases h0 : rc = 0
                          · subst h1 h0
                            have hr := HR.out rfl rfl
                            rw [HLA.out] at hr
                            have hK4 := HK'.out
                            rw [if_pos ⟨rfl, rfl⟩] at hK4
                            go_wp2
                            have eX : Blk w4.drew wr.heap.size [.int .i64 1, .int .i64 xi, .int .i64 xb, str xt, .slice xsp xp.length xpc] 33 := hX4.drew
                            haveI : Nonempty (SqC.Come fun W => Blk W wr.heap.size [.int .i64 1, .int .i64 xi, .int .i64 xb, str xt, .slice xsp xp.length xpc] 33) := ⟨⟨_, eX⟩⟩
                            refine SqC.wp_region_sqc 7 [4, 6] (fun W => Blk W wr.heap.size [.int .i64 1, .int .i64 xi, .int .i64 xb, str xt, .slice xsp xp.length xpc] 33) (by kernel_rfl) (by kernel_rfl) (by kernel_rfl) eX ?_
                            obtain ⟨wd, hwd⟩ : ∃ wd : World, wd = w4.drew := ⟨_, rfl⟩
                            have ed : Below w4.heap.size w4 wd := by rw [hwd]; exact (Below.refl _ _).drew
                            rw [← hwd] at eX ⊢
                            clear hwd
                            have hAd := hA4.far ed
                            have hGd := hG4.below ed hG4.lt
                            iterate 2 (refine SqC.quiet rfl rfl ?_; go_big_quiet_step (fail); refine wpQuiet_nil ?_)
                            refine SqC.value (.int .i64 xi) rfl rfl (by intro W hW; have cx : W.cell? ⟨wr.heap.size, 1, none⟩ = some (.int .i64 xi) := hW.cell rfl; go_simp) ?_
                            simp only [Act.put, List.setIfInBounds_toArray, List.set_cons_zero, List.set_cons_succ]
                            refine SqC.value (.agg #[.int .i64 1, .int .i64 xi, .int .i64 xb, str xt, .slice xsp xp.length xpc]) rfl rfl (by intro W hW; exact load_agg_exec rfl rfl (run_load_agg (P := Try.prog) (ty := 33) hW.cells0 aggOp infoOp)) ?_
                            simp only [Act.put, List.setIfInBounds_toArray, List.set_cons_zero, List.set_cons_succ]
                            refine SqC.effect rfl rfl ?_
                            refine yields_call rfl (by kernel_rfl) rfl rfl ((text_any 1 xi xb xt (.slice xsp xp.length xpc) rfl wd).mono ?_)
                            rintro e w5 ⟨rfl, b5⟩
                            have X5 := eX.below b5 eX.lt
                            have hA5 := hAd.far b5
                            have hG5 := hGd.below b5 hGd.lt
                            refine ⟨_, rfl, fun _ => X5, ?_⟩
                            simp only [Act.put, List.setIfInBounds_toArray, List.set_cons_zero, List.set_cons_succ]
                            obtain ⟨q, rfl⟩ : ∃ q : Nat, xi = q := ⟨xi.toNat, by omega⟩
                            have hqn : q < n := by omega
                            refine SqC.quiet rfl rfl ?_; go_big_quiet_step (fail); refine wpQuiet_nil ?_
                            have hfr := hG5.frozen
                            have cq : w5.cell? ⟨G, q, none⟩ = some (str (last.getD q [])) := by
                              refine hG5.cell ?_
                              rw [List.getElem?_map, List.getElem?_eq_getElem (by rw [HLA.out]; exact hqn), List.getD_eq_getElem?_getD, List.getElem?_eq_getElem (by rw [HLA.out]; exact hqn)]
                              rfl
                            have hG6 := hG5.set q (str (opText xt))
                            rw [← List.map_set] at hG6
                            have hA6 : At w (w5.setCell ⟨G, q, none⟩ (str (opText xt))) f d' := ⟨hA5.pd.chg ((Chg.refl [G] w5).set (a := ⟨G, q, none⟩) _ (by simp)) (by intro x hx; simp; intro e; exact hGf (e ▸ hx)), hA5.own, below_set hA5.below (Nat.le_refl _) hGw _ _⟩
                            refine SqC.effectW rfl rfl ?_
                            go_wp2
                            refine SqC.here rfl (by intro h; first | exact h.elim | exact absurd rfl h) (SqC.nil ?_)
                            go_wp2
                            go_roundw
                            case rel => exact ⟨k + 1, d', last.set q (opText xt), by omega, by go_num, hdl', hA6, by simpa using hK4, hG6⟩
                            case measure => simp [intOf]; omega
                          · subst h1
                            have hK4 := HK'.out
                            rw [if_neg (fun h => h0 h.2)] at hK4
                            have n0 : (rc == 0) = false := by simpa using h0
                            clear h0
                            go_wp2
                            go_roundw
                            case rel => exact ⟨k + 1, d', last, by omega, by go_num, hdl', hA4, hK4, hG4⟩
                            case measure => simp [intOf]; omega
                        · have hK4 := HK'.out
                          rw [if_neg (fun h => h1 h.1)] at hK4
                          have n1 : (xk == 1) = false := by simpa using h1
                          clear h1
                          go_wp2
                          go_roundw
                          case rel => exact ⟨k + 1, d', last, by omega, by go_num, hdl', hA4, hK4, hG4⟩
                          case measure => simp [intOf]; omega
              · obtain rfl : k = l.length := by omega
                have hll : last.length = n := by rw [hlast, hdl]
                have hnn : n ≤ 64 := by omega
                obtain ⟨hf1, _, hf3, hf4⟩ := hK.flush hB.pd.ok
                have hS : ∀ {W : World}, Blk W G (last.map str) 9 → Sl W 1 (.slice (some ⟨G, 0, none⟩) n n) n (last.map str) := fun h => ⟨by simp [hll], .inr ⟨G, 0, n, rfl, Nat.le_refl _, by simp [maxLen]; omega, h.cells0, h.lt⟩⟩
                have hIm : ∀ W d1, PD W f d1 → aimage d1.s = last → Calls Try.prog 15 #[.pointer (some ⟨f.p, 0, none⟩)] W fun e w' => ∃ sa cap, e = .returned (.slice sa n cap) ∧ Sl w' 1 (.slice sa n cap) n (last.map str) ∧ Below W.heap.size W w' := by
                  intro W d1 h1 h2
                  refine (imageO f d1 W h1).mono ?_
                  rintro e w' ⟨sa, cap, h3, h4, _, h5⟩
                  rw [h2, hll] at h3 h4
                  exact ⟨sa, cap, h3, h4, h5⟩
                have hSm : ∀ W sa ca, Sl W 1 (.slice sa n ca) n (last.map str) → Sl W 1 (.slice (some ⟨G, 0, none⟩) n n) n (last.map str) → Calls Try.prog 21 #[.slice sa n ca, .slice (some ⟨G, 0, none⟩) n n] W fun e w' => e = .returned (.bool true) ∧ Below W.heap.size W w' := by
                  intro W sa ca h1 h2
                  have := sameT last sa (some ⟨G, 0, none⟩) ca n W (by rw [hll]; exact h1) (by rw [hll]; exact h2) (by rw [hll]; omega)
                  rw [hll] at this
                  exact this
                have hF : ∀ W, PD W f d → Calls Try.prog 25 #[.pointer (some ⟨f.p, 0, none⟩)] W fun e w' => e = .returned (.int .i64 0) ∧ PD w' f (aflush d).2 ∧ Chg f.all W w' := by
                  intro W h
                  have := flush_any f d W h
                  rw [hf1] at this
                  exact this
                have hf5 : aimage (amount (aflush d).2 ps).s = last := by rw [hf4, hf3]
                obtain ⟨d', hd'⟩ : ∃ d', d' = (aflush d).2 := ⟨_, rfl⟩
                rw [← hd'] at hf3 hf5 hF
                clear hf1 hf4 hd' hK
                have HF3 := Lib.hid hf3; clear hf3
                have HF5 := Lib.hid hf5; clear hf5
                clear hll hlast hdl
                go_wp2_with fail
                refine (hF wr hB.pd).mono ?_
                rintro e w3 ⟨rfl, hP3, hc3⟩
                have hA3 := hB.chg hP3 hc3
                have hG3 := hG.chg hc3 hGf
                clear hP3 hc3 hB hG hF
                go_wp2_with fail
                refine (hIm w3 d' hA3.pd HF3.out).mono ?_
                rintro e w4 ⟨s1, c1, rfl, hI4, b4⟩
                have hA4 := hA3.far b4
                have hG4 := hG3.below b4 hG3.lt
                clear hA3 hG3 b4
                go_wp2_with fail
                refine (hSm w4 s1 c1 hI4 (hS hG4)).mono ?_
                rintro e w5 ⟨rfl, b5⟩
                have hA5 := hA4.far b5
                have hG5 := hG4.below b5 hG4.lt
                clear hA4 hG4 b5 hI4
                go_wp2_with fail
                refine (mount_any f d' ps pa pc w5 hA5.pd (fun _ => hz.below hA5.below) (fun _ => sl_notin hz hA5.own)).mono ?_
                rintro e w6 ⟨rfl, hP6, hc6⟩
                have hA6 := hA5.chg hP6 hc6
                have hG6 := hG5.chg hc6 hGf
                clear hA5 hG5 hP6 hc6
                go_wp2_with fail
                refine (hIm w6 _ hA6.pd HF5.out).mono ?_
                rintro e w7 ⟨s2, c2, rfl, hI7, b7⟩
                have hA7 := hA6.far b7
                have hG7 := hG6.below b7 hG6.lt
                clear hA6 hG6 b7
                go_wp2_with fail
                refine (hSm w7 s2 c2 hI7 (hS hG7)).mono ?_
                rintro e w8 ⟨rfl, b8⟩
                have hA8 := hA7.far b8
                clear hA7 hG7 b8 hI7 hIm hSm
                go_wp2
                go_ret
                exact ⟨rfl, hA8.below⟩
end Go.Proofs.Ytkffgmhaiodagaa
