/- The walk over DiskTears. -/
import Derived.Test.YtkffgmhaiodagaaR12
namespace Go.Disk
theorem apend_none : ∀ (s : List Sec), (∀ x ∈ s, x.p = none) → apend s = []
  | [], _ => rfl
  | x :: xs, h => by rw [apend_cons, apend_none xs fun y hy => h y (List.mem_cons_of_mem _ hy)]; simp [h x List.mem_cons_self]
theorem sall_nopend : ∀ (s : List Sec) (ps : List Int), ∀ x ∈ sall ps s, x.p = none
  | [], _, x, h => by cases h
  | y :: ys, ps, x, h => by
    unfold sall at h
    by_cases hy : y.p.isSome = true
    · rw [if_pos hy] at h
      rcases List.mem_cons.1 h with rfl | h
      · rfl
      · exact sall_nopend ys _ x h
    · rw [if_neg hy] at h
      rcases List.mem_cons.1 h with rfl | h
      · simpa using hy
      · exact sall_nopend ys _ x h
theorem apend_sall (ps : List Int) (s : List Sec) : apend (sall ps s) = [] := apend_none _ (sall_nopend s ps)
end Go.Disk
namespace Go.Own
theorem sl_notin {w : World} {n cap : Nat} {sa : Option Addr} {vs : List Value} {F : List Nat} (h : Sl w 1 (.slice sa n cap) n vs) (hF : ∀ y ∈ F, w.heap.size ≤ y) : ∀ b, (Value.slice sa n cap).ownBlock = some b → b ∉ F := by
  intro b hb hy
  have h1 := hF b hy
  obtain ⟨_, ⟨h2, _⟩ | ⟨b', off, cap, h2, _, _, _, h3⟩⟩ := h
  · rw [h2] at hb; cases hb
  · rw [h2] at hb
    have : b' = b := by simpa [Value.ownBlock] using hb
    omega
theorem cell_alloc {w : World} {a : Addr} {v : Value} (h : w.cell? a = some v) (o : Obj) : (w.alloc o).cell? a = some v := by
  rw [World.cell?_alloc_lt _ _ _ (World.block_lt_of_cell? _ _ h)]; exact h
end Go.Own
namespace Go.Proofs.Ytkffgmhaiodagaa
open Go.RowKit Go.Own Go.Disk Go.BigFrame
attribute [local go_sem] setCell_twice str_size op_str_eql op_str_neq str_append bytes_extract
set_option maxHeartbeats 6400000 in
set_option maxRecDepth 100000 in
theorem tears_any (z : Int) (l : List Opm) (sa : Option Addr) (cap : Nat) (ps : List Int) (pa : Option Addr) (pc : Nat) (w : World) (hs : ScrAt w (.slice sa l.length cap) l) (hz : Sl w 1 (.slice pa ps.length pc) ps.length (ps.map fun z => .int .i64 z)) : Calls Try.prog 6 #[.int .i64 z, .slice sa l.length cap, .slice pa ps.length pc] w fun e w' => e = .returned (.bool true) ∧ Below w.heap.size w w' := by
  go_enter Try.func6, Try.ntmps6
  go_wp2_with fail
  refine (sanity_any w).mono ?_
  rintro e w1 ⟨rfl, hb1⟩
  by_cases hz : z < 1
  · go_wp2_with fail
    refine (start_bad z (.inl hz) w1).mono ?_
    rintro e w2 ⟨rfl, rfl⟩
    go_wp2
    go_ret
    exact ⟨rfl, hb1⟩
  · have hz1 : 1 ≤ z := by omega
    clear hz
    by_cases hz : 64 < z
    · go_wp2_with fail
      refine (start_bad z (.inr hz) w1).mono ?_
      rintro e w2 ⟨rfl, rfl⟩
      go_wp2
      go_ret
      exact ⟨rfl, hb1⟩
    · have hz2 : z ≤ 64 := by omega
      clear hz
      obtain ⟨n, rfl⟩ : ∃ n : Nat, z = n := ⟨z.toNat, by omega⟩
      go_wp2_with fail
      refine (start_any n (by omega) (by omega) w1).mono ?_
      rintro e w2 ⟨f, r, rfl, hB⟩
      have hB2 : Both w w2 f r (Disk.fresh n) := ⟨hB.pd, hB.rd, fun x hx => Nat.le_trans hb1.size (hB.fo x hx), fun x hx => Nat.le_trans hb1.size (hB.ro x hx), hB.dis, hb1.trans (hB.below.mono hb1.size)⟩
      clear hB hb1
      by_cases hl : 60 < l.length
      · have hl' : (60 : Int) < l.length := by omega
        go_wp2
        go_ret
        exact ⟨rfl, hB2.below⟩
      · have hl' : (l.length : Int) ≤ 60 := by omega
        clear hl
        go_wp2
        go_loopw [11] (fun c wr => ∃ (k : Nat) (d : DS), k ≤ l.length ∧ c = .int .i64 k ∧ d.s.length = n ∧ Both w wr f r d) (fun c _ => l.length - (intOf c).toNat)
        case atStart => exact ⟨0, _, by omega, rfl, by simp [Disk.fresh], hB2⟩
        case round =>
          obtain ⟨k, d, hk, rfl, hdl, hB⟩ := hrel
          by_cases hkl : k < l.length
          · obtain ⟨x, hx⟩ : ∃ x, l[k]? = some x := ⟨l[k], by simp [hkl]⟩
            obtain ⟨b, off, rfl, hC1, hbl, hbl0, hpk, hpn, hrn, hir⟩ := hB.opfacts hs hx
            have HX := Lib.hid hx; clear hx
            go_wp2_with (refine wpList_load_agg (opcells x) hC1 rfl rfl rfl aggOp infoOp ?_)
            refine (do_at x wr hB.pd hir hpk hpn).mono ?_
            rintro e w3 ⟨rfl, hP3, hc3⟩
            have hC3 := hC1.chg hc3 hbl fun hx => by have := hB.fo _ hx; omega
            have hpk3 := fun hne => (hpk hne).chg hc3 (hpn hne)
            have hR3 := hB.rd.chg hc3 fun x hx hy => hB.dis x hy hx
            clear hC1
            go_wp2_with (refine wpList_load_agg (opcells x) hC3 rfl rfl rfl aggOp infoOp ?_)
            refine (rdo_at x w3 hR3 hir hpk3 hrn).mono ?_
            rintro e w4 ⟨rfl, hR4, hc4⟩
            have hB4 := hB.step hP3 hc3 fun _ => ⟨hR4, hc4⟩
            clear hC3 hpk hpk3 hR3 hP3 hc3 hR4 hc4 hB
            go_wp2
            go_roundw
            case rel => exact ⟨k + 1, _, by omega, by go_num, by rw [ado_len]; exact hdl, hB4⟩
            case measure => simp [intOf]; omega
          · obtain rfl : k = l.length := by omega
            have hok := hB.pd.ok
            have hflt := hB.pd.lt
            go_wp2_with fail
            refine (image_any f d wr hB.pd).mono ?_
            rintro e w3 ⟨v1, rfl, hI1, hIo1, b3⟩
            obtain ⟨s1, c1, rfl, _⟩ := sl_slice hI1
            have hB3 := hB.far b3
            have hI1n : ∀ b, (Value.slice s1 d.s.length c1).ownBlock = some b → b ∉ f.all := fun b h h' => absurd (hIo1 b h) (Nat.not_le.2 (hflt b h'))
            have hz3 := hz.below hB3.below
            have hzn : ∀ b, (Value.slice pa ps.length pc).ownBlock = some b → b ∉ f.all := sl_notin hz hB.fo
            clear hB b3 hIo1 hflt
            go_wp2_with fail
            refine (mount_any f d ps pa pc w3 hB3.pd (fun _ => hz3) (fun _ => hzn)).mono ?_
            rintro e w4 ⟨rfl, hP4, hc4⟩
            have hI4 := hI1.chg hc4 hI1n
            have hR4 := hB3.rd.chg hc4 fun x hx hy => hB3.dis x hy hx
            have hb4 : Below w.heap.size w w4 := hB3.below.trans (hc4.below hB3.below.size hB3.fo)
            clear hB3 hc4 hI1 hI1n hz3 hzn
            have hml : (amount d ps).s.length = d.s.length := by unfold amount; rw [settleTo_sall, sall_length]
            have hmi : aimage (amount d ps).s = aimage (sall ps d.s) := by unfold amount; rw [settleTo_sall]
            have hmp : apend (amount d ps).s = [] := by unfold amount; rw [settleTo_sall]; exact apend_sall ps d.s
            have hoff : (amount d ps).off = false := rfl
            have HML := Lib.hid hml; clear hml
            go_wp2_with fail
            refine (image_any f _ w4 hP4).mono ?_
            rintro e w5 ⟨v2, rfl, hI2, _, b5⟩
            rw [HML.out, hmi] at hI2
            obtain ⟨s2, c2, rfl, _⟩ := sl_slice hI2
            have hP5 := hP4.below b5
            have hI5 := hI4.below b5
            have hR5 := hR4.below b5
            have hb5 := hb4.trans (b5.mono hb4.size)
            clear hP4 hI4 hR4 hb4 b5 hmi
            rw [hdl] at hI2 hI5
            rw [hdl]
            go_wp2_with fail
            refine (pending_any f _ w5 hP5).mono ?_
            rintro e w6 ⟨v3, rfl, hrow, b6⟩
            rw [hmp] at hrow
            obtain ⟨s3, c3, rfl, _⟩ := Own.own_slice hrow
            clear hrow hmp
            have hP6 := hP5.below b6
            have hI6 := hI5.below b6
            have hJ6 := hI2.below b6
            have hR6 := hR5.below b6
            have hb6 := hb5.trans (b6.mono hb5.size)
            have hz6 := hz.below hb6
            clear hP5 hI5 hI2 hR5 hb5 b6
            go_wp2_with (go_at_call 27; refine (up_any f _ w6 hP6).mono ?_; rintro e w' ⟨rfl, rfl⟩; rw [hoff])
            clear hP6 hoff
            obtain ⟨b1, o1, rfl, _, _, hC1, hl1⟩ := sl_cases hI6 (by omega)
            obtain ⟨b2, o2, rfl, _, _, hC2, hl2⟩ := sl_cases hJ6 (by omega)
            clear hI6 hJ6
            go_loopw [14, 15] (fun c14 c15 wr => ∃ i : Nat, i ≤ n ∧ c15 = .int .i64 i ∧ c14 = .int .i64 (cnt d.s i) ∧ Below w'.heap.size w' wr) (fun _ c _ => n - (intOf c).toNat)
            case atStart => exact ⟨0, by omega, rfl, rfl, Below.refl _ _⟩
            case round =>
              obtain ⟨i, hi, rfl, rfl, hbr⟩ := hrel
              by_cases hin : i < n
              · have hid : i < d.s.length := by omega
                have hcs := cnt_succ d.s i hid
                have hsg := sall_getD d.s ps i hid
                have hRr := hR6.below hbr
                have k0 : wr.cell? ⟨r.p, 0, none⟩ = some (.slice (some ⟨r.sb, 0, none⟩) d.s.length r.cap) := hRr.head.cell rfl
                rw [hdl] at k0
                obtain ⟨A, B, hA, hAB, _⟩ := rcells_split hid r.sp
                have hC : Cells wr r.sb (i * 4) (rsec (d.s.getD i default)) := hRr.secs.cells _ _ (by rw [hAB, ← hA, List.drop_left]; exact List.take_left)
                obtain ⟨x, hx⟩ : ∃ x, x = d.s.getD i default := ⟨_, rfl⟩
                rw [← hx] at hcs hsg hC
                have hxm : x ∈ d.s := by rw [hx, List.getD_eq_getElem?_getD, List.getElem?_eq_getElem hid]; exact List.getElem_mem hid
                have htl := hok.t x hxm
                have hpl := hok.p x hxm
                have cx : wr.cell? ⟨b1, o1 + i, none⟩ = some (str x.t) := (hC1.below hbr hl1) i _ (by rw [hx, List.getElem?_map, aimage, List.getElem?_map, List.getElem?_eq_getElem hid, List.getD_eq_getElem?_getD, List.getElem?_eq_getElem hid]; rfl)
                obtain ⟨tn, htn⟩ : ∃ tn, tn = ((sall ps d.s).getD i default).t := ⟨_, rfl⟩
                have hil : i < (sall ps d.s).length := by rw [sall_length]; exact hid
                have cn : wr.cell? ⟨b2, o2 + i, none⟩ = some (str tn) := (hC2.below hbr hl2) i _ (by rw [htn, List.getElem?_map, aimage, List.getElem?_map, List.getElem?_eq_getElem hil, List.getD_eq_getElem?_getD, List.getElem?_eq_getElem hil]; rfl)
                rw [hsg] at htn
                obtain ⟨m, hm⟩ : ∃ m, m = cnt d.s i := ⟨_, rfl⟩
                have hm2 : m ≤ 4096 := by
                  have : (d.s.take i).countP (fun x => x.p.isSome) ≤ (d.s.take i).length := List.countP_le_length
                  rw [List.length_take] at this
                  rw [hm]; unfold cnt; omega
                rw [← hm] at hcs htn ⊢
                have HM := Lib.hid hm; clear hm
                have HX := Lib.hid hx; clear hx
                have HCS := Lib.hid hcs; clear hcs
                clear hsg hRr hA hAB hxm
                have cx9 := fun ob => cell_alloc cx ob
                have cn9 := fun ob => cell_alloc cn ob
                obtain ⟨t0, p0, wn⟩ := x
                dsimp only at cx cx9 htn htl hpl HCS
                cases p0 with
                | none =>
                  have hC' : Cells wr r.sb (i * 4) [str t0, str [], .bool false, .bool wn] := hC
                  have htn' : tn = t0 := htn
                  have hq : (tn == t0) = true := by simp [htn']
                  have hb9 := hbr.trans ((alloc_below wr (.cells #[str t0, str [], .bool false, .bool wn] 54)).mono hbr.size)
                  have HC := Lib.hid hC; clear hC
                  clear htn htn'
                  go_wp2_with (refine wpList_load_agg [str t0, str [], .bool false, .bool wn] hC' rfl rfl rfl aggSec infoSec ?_)
                  go_roundw
                  case rel => exact ⟨i + 1, by omega, by go_num, by rw [HCS.out]; first | rfl | simp, hb9⟩
                  case measure => simp [intOf]; omega
                | some q =>
                  have hql : q.length = 64 := hpl q rfl
                  have hC' : Cells wr r.sb (i * 4) [str t0, str q, .bool true, .bool wn] := hC
                  have HC := Lib.hid hC; clear hC
                  by_cases hpk : m < ps.length
                  · obtain ⟨p, hp⟩ : ∃ p, p = ps.getD m 64 := ⟨_, rfl⟩
                    have hz9 := hz6.below hbr
                    obtain ⟨b3, o3, rfl, _, _, hC3, _⟩ := sl_cases hz9 (by omega)
                    have cp : wr.cell? ⟨b3, o3 + m, none⟩ = some (.int .i64 p) := hC3 m _ (by rw [List.getElem?_map, List.getElem?_eq_getElem hpk, hp, List.getD_eq_getElem?_getD, List.getElem?_eq_getElem hpk]; rfl)
                    rw [← hp] at htn
                    have cp9 := fun ob => cell_alloc cp ob
                    have HP := Lib.hid hp; clear hp
                    obtain ⟨c, hc⟩ : ∃ c : Nat, clamp p = c := ⟨_, rfl⟩
                    have hc64 : c ≤ 64 := by rw [← hc]; unfold clamp; omega
                    have hck : max 0 (min p 64) = (c : Int) := by rw [← hc]; unfold clamp; omega
                    have hcq : (c : Int) ≤ 64 := by omega
                    cases wn with
                    | true =>
                      have htn' : tn = t0 := htn
                      have hq : (tn == t0) = true := by simp [htn']
                      have hb9 := hbr.trans ((alloc_below wr (.cells #[str t0, str q, .bool true, .bool true] 54)).mono hbr.size)
                      clear htn htn'
                      go_wp2_with (refine wpList_load_agg [str t0, str q, .bool true, .bool true] hC' rfl rfl rfl aggSec infoSec ?_)
                      go_roundw
                      case rel => exact ⟨i + 1, by omega, by go_num, by rw [HCS.out]; first | rfl | (simp; done) | go_num, hb9⟩
                      case measure => simp [intOf]; omega
                    | false =>
                      have htn' : tn = q.take c ++ t0.drop c := by rw [htn]; simp [settle1, hc]
                      have e64 : List.take 64 t0 = t0 := List.take_of_length_le (by omega)
                      have hq : (tn == q.take c ++ t0.drop c) = true := by simp [htn']
                      have hb9 := hbr.trans ((alloc_below wr (.cells #[str t0, str q, .bool true, .bool false] 54)).mono hbr.size)
                      clear htn htn'
                      go_wp2_with (refine wpList_load_agg [str t0, str q, .bool true, .bool false] hC' rfl rfl rfl aggSec infoSec ?_)
                      go_quiet (fail)
                      go_wp2
                      go_roundw
                      case rel => exact ⟨i + 1, by omega, by go_num, by rw [HCS.out]; first | rfl | (simp; done) | go_num, below_drewN hb9 _⟩
                      case measure => simp [intOf]; omega
                  · have hp : ps.getD m 64 = 64 := by rw [List.getD_eq_getElem?_getD, List.getElem?_eq_none (by omega)]; rfl
                    rw [hp] at htn
                    have HP := Lib.hid hp; clear hp
                    obtain ⟨c, hc⟩ : ∃ c : Nat, c = 64 := ⟨_, rfl⟩
                    have hc : clamp 64 = c := by rw [hc]; rfl
                    have hpk' : (ps.length : Int) ≤ m := by omega
                    cases wn with
                    | true =>
                      have htn' : tn = t0 := htn
                      have hq : (tn == t0) = true := by simp [htn']
                      have hb9 := hbr.trans ((alloc_below wr (.cells #[str t0, str q, .bool true, .bool true] 54)).mono hbr.size)
                      clear htn htn'
                      go_wp2_with (refine wpList_load_agg [str t0, str q, .bool true, .bool true] hC' rfl rfl rfl aggSec infoSec ?_)
                      go_roundw
                      case rel => exact ⟨i + 1, by omega, by go_num, by rw [HCS.out]; first | rfl | (simp; done) | go_num, hb9⟩
                      case measure => simp [intOf]; omega
                    | false =>
                      have htn' : tn = q.take 64 ++ t0.drop 64 := by rw [htn]; simp [settle1, show clamp 64 = 64 from rfl]
                      have e64 : List.take 64 t0 = t0 := List.take_of_length_le (by omega)
                      have hq : (tn == q.take 64 ++ t0.drop 64) = true := by simp [htn']
                      have hb9 := hbr.trans ((alloc_below wr (.cells #[str t0, str q, .bool true, .bool false] 54)).mono hbr.size)
                      have eq64 : List.take 64 q = q := List.take_of_length_le (by omega)
                      have ed64 : List.drop 64 t0 = [] := List.drop_of_length_le (by omega)
                      have hq2 : (tn == q) = true := by rw [htn', eq64, ed64]; simp
                      have hq3 : (tn == q ++ []) = true := by simpa using hq2
                      clear htn htn'
                      go_wp2_with (refine wpList_load_agg [str t0, str q, .bool true, .bool false] hC' rfl rfl rfl aggSec infoSec ?_)
                      go_quiet (fail)
                      go_wp2
                      go_roundw
                      case rel => exact ⟨i + 1, by omega, by go_num, by rw [HCS.out]; first | rfl | (simp; done) | go_num, below_drewN hb9 _⟩
                      case measure => simp [intOf]; omega
              · obtain rfl : i = n := by omega
                go_wp2
                go_ret
                exact ⟨rfl, hb6.trans (hbr.mono hb6.size)⟩
end Go.Proofs.Ytkffgmhaiodagaa
