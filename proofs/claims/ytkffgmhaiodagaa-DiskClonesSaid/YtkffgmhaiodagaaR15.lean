/- The walk over DiskClones. -/
import Derived.Test.YtkffgmhaiodagaaR12
namespace Go.Proofs.Ytkffgmhaiodagaa
open Go.RowKit Go.Own Go.Disk Go.BigFrame
attribute [local go_sem] setCell_twice str_size op_str_eql op_str_neq
theorem Both.keep {w0 w w' : World} {f : Ft} {r : Rt} {d : DS} {F : List Nat} (h : Both w0 w f r d) (hc : Chg F w w') (hF : ∀ x ∈ F, w0.heap.size ≤ x) (h1 : ∀ x ∈ f.all, x ∉ F) (h2 : ∀ x ∈ r.all, x ∉ F) : Both w0 w' f r d :=
  ⟨h.pd.chg hc h1, h.rd.chg hc h2, h.fo, h.ro, h.dis, h.below.trans (hc.below h.below.size hF)⟩
set_option maxHeartbeats 9600000 in
set_option maxRecDepth 100000 in
theorem clones_any (z : Int) (l l2 l3 : List Opm) (sa sa2 sa3 : Option Addr) (cap cap2 cap3 : Nat) (w : World) (hs : ScrAt w (.slice sa l.length cap) l) (hs2 : ScrAt w (.slice sa2 l2.length cap2) l2) (hs3 : ScrAt w (.slice sa3 l3.length cap3) l3) :
    Calls Try.prog 8 #[.int .i64 z, .slice sa l.length cap, .slice sa2 l2.length cap2, .slice sa3 l3.length cap3] w fun e w' => e = .returned (.bool true) ∧ Below w.heap.size w w' := by
  go_enter Try.func8, Try.ntmps8
  go_wp2_with fail
  refine (sanity_any w).mono ?_
  rintro e w1 ⟨rfl, hb1⟩
  by_cases hz : z < 1
  · go_wp2_with fail
    refine (start_bad z (.inl hz) w1).mono ?_
    rintro e w2 ⟨rfl, rfl⟩
    go_wp2
    go_ret
    exact ⟨rfl, hb1⟩
  · have hz1 : 1 ≤ z := by omega
    clear hz
    by_cases hz : 64 < z
    · go_wp2_with fail
      refine (start_bad z (.inr hz) w1).mono ?_
      rintro e w2 ⟨rfl, rfl⟩
      go_wp2
      go_ret
      exact ⟨rfl, hb1⟩
    · have hz2 : z ≤ 64 := by omega
      clear hz
      obtain ⟨n, rfl⟩ : ∃ n : Nat, z = n := ⟨z.toNat, by omega⟩
      go_wp2_with fail
      refine (start_any n (by omega) (by omega) w1).mono ?_
      rintro e w2 ⟨f, r, rfl, hB⟩
      have hB2 : Both w w2 f r (Disk.fresh n) := ⟨hB.pd, hB.rd, fun x hx => Nat.le_trans hb1.size (hB.fo x hx), fun x hx => Nat.le_trans hb1.size (hB.ro x hx), hB.dis, hb1.trans (hB.below.mono hb1.size)⟩
      clear hB hb1
      by_cases hl : 60 < l.length
      · have hl' : (60 : Int) < l.length := by omega
        go_wp2
        go_ret
        exact ⟨rfl, hB2.below⟩
      · have hl' : (l.length : Int) ≤ 60 := by omega
        clear hl
        by_cases hl : 60 < l2.length
        · have hl2' : (60 : Int) < l2.length := by omega
          go_wp2
          go_ret
          exact ⟨rfl, hB2.below⟩
        · have hl2' : (l2.length : Int) ≤ 60 := by omega
          clear hl
          by_cases hl : 60 < l3.length
          · have hl3' : (60 : Int) < l3.length := by omega
            go_wp2
            go_ret
            exact ⟨rfl, hB2.below⟩
          · have hl3' : (l3.length : Int) ≤ 60 := by omega
            clear hl
            go_wp2
            go_loopw [13] (fun c wr => ∃ (k : Nat) (d : DS), k ≤ l.length ∧ c = .int .i64 k ∧ Both w wr f r d) (fun c _ => l.length - (intOf c).toNat)
            case atStart => exact ⟨0, _, by omega, rfl, hB2⟩
            case round =>
              obtain ⟨k, d, hk, rfl, hB⟩ := hrel
              by_cases hkl : k < l.length
              · skip
                obtain ⟨x, hx⟩ : ∃ x, l[k]? = some x := ⟨l[k], by simp [hkl]⟩
                obtain ⟨b, off, rfl, hC1, hbl, hbl0, hpk, hpn, hrn, hir⟩ := hB.opfacts hs hx
                have HX := Lib.hid hx; clear hx
                go_wp2_with (refine wpList_load_agg (opcells x) hC1 rfl rfl rfl aggOp infoOp ?_)
                refine (do_at x wr hB.pd hir hpk hpn).mono ?_
                rintro e w3 ⟨rfl, hP3, hc3⟩
                have hC3 := hC1.chg hc3 hbl fun hx => by have := hB.fo _ hx; omega
                have hpk3 := fun hne => (hpk hne).chg hc3 (hpn hne)
                have hR3 := hB.rd.chg hc3 fun x hx hy => hB.dis x hy hx
                clear hC1
                go_wp2_with (refine wpList_load_agg (opcells x) hC3 rfl rfl rfl aggOp infoOp ?_)
                refine (rdo_at x w3 hR3 hir hpk3 hrn).mono ?_
                rintro e w4 ⟨rfl, hR4, hc4⟩
                have hB4 := hB.step hP3 hc3 fun _ => ⟨hR4, hc4⟩
                clear hC3 hpk hpk3 hR3 hP3 hc3 hR4 hc4 hB
                go_wp2
                go_roundw
                case rel => exact ⟨k + 1, _, by omega, by go_num, hB4⟩
                case measure => simp [intOf]; omega
              · obtain rfl : k = l.length := by omega
                clear hB2
                have hlf := hB.pd.lt
                have hlr := hB.rd.lt
                go_wp2_with fail
                refine (clone_any f d wr hB.pd).mono ?_
                rintro e w3 ⟨g, rfl, hG3, hgo, hb3⟩
                have hB3 := hB.far hb3
                have hwr := hB.below.size
                have hlg := hG3.lt
                clear hB
                go_wp2_with fail
                refine (rclone_any r d w3 hB3.rd).mono ?_
                rintro e w4 ⟨q, rfl, hQ4, hqo, hb4⟩
                have hB4 := hB3.far hb4
                have hz3 := hb3.size
                have hz0 := hB3.below.size
                have D1 : ∀ x ∈ g.all, x ∉ f.all := fun x hx hy => by have := hgo x hx; have := hlf x hy; omega
                have D2 : ∀ x ∈ g.all, x ∉ r.all := fun x hx hy => by have := hgo x hx; have := hlr x hy; omega
                have D3 : ∀ x ∈ q.all, x ∉ f.all := fun x hx hy => by have := hqo x hx; have := hlf x hy; omega
                have D4 : ∀ x ∈ q.all, x ∉ r.all := fun x hx hy => by have := hqo x hx; have := hlr x hy; omega
                have hO4 : Both w w4 g q d := ⟨hG3.below hb4, hQ4, fun x hx => by have := hgo x hx; omega, fun x hx => by have := hqo x hx; omega, fun x hx hy => by have := hlg x hx; have := hqo x hy; omega, hB4.below⟩
                clear hB3 hG3 hQ4 hb3 hb4 hlf hlr hlg hgo hqo hz3 hz0
                go_wp2_with fail
                refine (same_any g q d w4 hO4.pd hO4.rd).mono ?_
                rintro e w5 ⟨rfl, hb5⟩
                have hB5 := hB4.far hb5
                have hO5 := hO4.far hb5
                clear hB4 hO4 hb5
                go_wp2
                go_loopw [16] (fun c wr => ∃ (k : Nat) (d1 : DS), k ≤ l2.length ∧ c = .int .i64 k ∧ Both w wr f r d1 ∧ Both w wr g q d) (fun c _ => l2.length - (intOf c).toNat)
                case atStart => exact ⟨0, _, by omega, rfl, hB5, hO5⟩
                case round =>
                  obtain ⟨k, d1, hk, rfl, hB, hO⟩ := hrel
                  by_cases hkl : k < l2.length
                  · skip
                    obtain ⟨x, hx⟩ : ∃ x, l2[k]? = some x := ⟨l2[k], by simp [hkl]⟩
                    obtain ⟨b, off, rfl, hC1, hbl, hbl0, hpk, hpn, hrn, hir⟩ := hB.opfacts hs2 hx
                    have HX := Lib.hid hx; clear hx
                    go_wp2_with (refine wpList_load_agg (opcells x) hC1 rfl rfl rfl aggOp infoOp ?_)
                    refine (do_at x wr hB.pd hir hpk hpn).mono ?_
                    rintro e w3 ⟨rfl, hP3, hc3⟩
                    have hC3 := hC1.chg hc3 hbl fun hx => by have := hB.fo _ hx; omega
                    have hpk3 := fun hne => (hpk hne).chg hc3 (hpn hne)
                    have hR3 := hB.rd.chg hc3 fun x hx hy => hB.dis x hy hx
                    clear hC1
                    go_wp2_with (refine wpList_load_agg (opcells x) hC3 rfl rfl rfl aggOp infoOp ?_)
                    refine (rdo_at x w3 hR3 hir hpk3 hrn).mono ?_
                    rintro e w4 ⟨rfl, hR4, hc4⟩
                    have hB4 := hB.step hP3 hc3 fun _ => ⟨hR4, hc4⟩
                    have hO4 := (hO.keep hc3 hB.fo D1 D3).keep hc4 hB.ro D2 D4
                    clear hO
                    clear hC3 hpk hpk3 hR3 hP3 hc3 hR4 hc4 hB
                    go_wp2
                    go_roundw
                    case rel => exact ⟨k + 1, _, by omega, by go_num, hB4, hO4⟩
                    case measure => simp [intOf]; omega
                  · obtain rfl : k = l2.length := by omega
                    clear hB5 hO5
                    go_wp2
                    go_loopw [17] (fun c wr => ∃ (k : Nat) (d2 : DS), k ≤ l3.length ∧ c = .int .i64 k ∧ Both w wr f r d1 ∧ Both w wr g q d2) (fun c _ => l3.length - (intOf c).toNat)
                    case atStart => exact ⟨0, _, by omega, rfl, hB, hO⟩
                    case round =>
                      obtain ⟨k, d2, hk, rfl, hB, hO⟩ := hrel
                      by_cases hkl : k < l3.length
                      · skip
                        obtain ⟨x, hx⟩ : ∃ x, l3[k]? = some x := ⟨l3[k], by simp [hkl]⟩
                        obtain ⟨b, off, rfl, hC1, hbl, hbl0, hpk, hpn, hrn, hir⟩ := hO.opfacts hs3 hx
                        have HX := Lib.hid hx; clear hx
                        go_wp2_with (refine wpList_load_agg (opcells x) hC1 rfl rfl rfl aggOp infoOp ?_)
                        refine (do_at x wr hO.pd hir hpk hpn).mono ?_
                        rintro e w3 ⟨rfl, hP3, hc3⟩
                        have hC3 := hC1.chg hc3 hbl fun hx => by have := hO.fo _ hx; omega
                        have hpk3 := fun hne => (hpk hne).chg hc3 (hpn hne)
                        have hR3 := hO.rd.chg hc3 fun x hx hy => hO.dis x hy hx
                        clear hC1
                        go_wp2_with (refine wpList_load_agg (opcells x) hC3 rfl rfl rfl aggOp infoOp ?_)
                        refine (rdo_at x w3 hR3 hir hpk3 hrn).mono ?_
                        rintro e w4 ⟨rfl, hR4, hc4⟩
                        have hB4 := hO.step hP3 hc3 fun _ => ⟨hR4, hc4⟩
                        have hO4 := (hB.keep hc3 hO.fo (fun x hx hy => D1 x hy hx) (fun x hx hy => D2 x hy hx)).keep hc4 hO.ro (fun x hx hy => D3 x hy hx) (fun x hx hy => D4 x hy hx)
                        clear hB
                        clear hC3 hpk hpk3 hR3 hP3 hc3 hR4 hc4 hO
                        go_wp2
                        go_roundw
                        case rel => exact ⟨k + 1, _, by omega, by go_num, hO4, hB4⟩
                        case measure => simp [intOf]; omega
                      · obtain rfl : k = l3.length := by omega
                        go_wp2_with fail
                        refine (same_any f r d1 wr hB.pd hB.rd).mono ?_
                        rintro e w6 ⟨rfl, hb6⟩
                        have hO6 := hO.far hb6
                        go_wp2_with fail
                        refine (same_any g q d2 w6 hO6.pd hO6.rd).mono ?_
                        rintro e w7 ⟨rfl, hb7⟩
                        go_wp2
                        go_ret
                        exact ⟨rfl, (hO6.far hb7).below⟩
end Go.Proofs.Ytkffgmhaiodagaa
