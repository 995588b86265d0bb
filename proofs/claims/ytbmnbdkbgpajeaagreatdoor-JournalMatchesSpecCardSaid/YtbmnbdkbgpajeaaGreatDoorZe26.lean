/- Flush, Mount of the reference. -/
import Derived.Test.YtbmnbdkbgpajeaaGreatDoorZe25
/- Flush, Mount of the reference. -/
section
namespace Go.Disk
open Go.RowKit Go.Own
/-- The first k sectors are settled. -/
def sallk (ps : List Int) (s : List Sec) (k : Nat) : List Sec := (sall ps s).take k ++ s.drop k
theorem sallk_zero (ps : List Int) (s : List Sec) : sallk ps s 0 = s := by simp [sallk]
theorem sallk_all (ps : List Int) (s : List Sec) : sallk ps s s.length = sall ps s := by
  simp [sallk, List.take_of_length_le, sall_length]
theorem sallk_length (ps : List Int) (s : List Sec) {k : Nat} (hk : k ≤ s.length) : (sallk ps s k).length = s.length := by
  simp [sallk, sall_length]; omega
theorem sallk_at (ps : List Int) (s : List Sec) {k : Nat} (hk : k < s.length) : (sallk ps s k).getD k default = s.getD k default := by
  have h1 : ((sall ps s).take k).length = k := by simp [sall_length]; omega
  unfold sallk
  rw [List.getD_eq_getElem?_getD, List.getElem?_append_right (by omega), h1, Nat.sub_self, List.getElem?_drop, Nat.add_zero, List.getD_eq_getElem?_getD]
theorem sallk_succ (ps : List Int) (s : List Sec) {k : Nat} (hk : k < s.length) : sallk ps s (k + 1) = if (s.getD k default).p.isSome then (sallk ps s k).modify k (settle1 (ps.getD (cnt s k) 64)) else sallk ps s k := by
  have hl := sall_length s ps
  have h1 : ((sall ps s).take k).length = k := by simp [hl]; omega
  have h2 : ((sall ps s).take (k + 1)).length = k + 1 := by simp [hl]; omega
  have hv := sall_getD s ps k hk
  rw [List.getD_eq_getElem?_getD, List.getElem?_eq_getElem (by omega), Option.getD_some] at hv
  have hx : s[k]? = some (s.getD k default) := by rw [List.getD_eq_getElem?_getD, List.getElem?_eq_getElem hk]; rfl
  apply List.ext_getElem?
  intro j
  have e1 : (sallk ps s (k + 1))[j]? = if j < k then (sall ps s)[j]? else if j = k then some (sall ps s)[k] else s[j]? := by
    unfold sallk
    by_cases hj : j < k
    · rw [if_pos hj, List.getElem?_append_left (by omega), List.getElem?_take_of_lt (by omega)]
    · rw [if_neg hj]
      by_cases hj2 : j = k
      · subst hj2
        rw [if_pos rfl, List.getElem?_append_left (by omega), List.getElem?_take_of_lt (by omega), List.getElem?_eq_getElem]
      · rw [if_neg hj2, List.getElem?_append_right (by omega), h2, List.getElem?_drop, show k + 1 + (j - (k + 1)) = j by omega]
  have e2 : (sallk ps s k)[j]? = if j < k then (sall ps s)[j]? else s[j]? := by
    unfold sallk
    by_cases hj : j < k
    · rw [if_pos hj, List.getElem?_append_left (by omega), List.getElem?_take_of_lt (by omega)]
    · rw [if_neg hj, List.getElem?_append_right (by omega), h1, List.getElem?_drop, show k + (j - k) = j by omega]
  rw [e1]
  by_cases hd : (s.getD k default).p.isSome = true
  · rw [if_pos hd, List.getElem?_modify, e2]
    rw [if_pos hd] at hv
    by_cases hj : j < k
    · rw [if_pos hj, if_pos hj]
      have : ¬ k = j := by omega
      simp [this]
    · rw [if_neg hj, if_neg hj]
      by_cases hj2 : j = k
      · subst hj2
        rw [if_pos rfl, hx, hv]; simp
      · have : ¬ k = j := by omega
        rw [if_neg hj2]; simp [this]
  · rw [if_neg hd, e2]
    rw [if_neg hd] at hv
    by_cases hj : j < k
    · rw [if_pos hj, if_pos hj]
    · rw [if_neg hj, if_neg hj]
      by_cases hj2 : j = k
      · subst hj2; rw [if_pos rfl, hx, hv]
      · rw [if_neg hj2]
end Go.Disk
namespace Go.Proofs.YtbmnbdkbgpajeaaGreatDoor
open Go.RowKit Go.Own Go.Disk Go.BigFrame
attribute [local go_sem] setCell_twice str_size
set_option maxHeartbeats 1600000 in
set_option maxRecDepth 100000 in
theorem rflush_any (f : Rt) (d : DS) (w : World) (h : RD w f d) : Calls Tryz.prog 66 #[.pointer (some ⟨f.p, 0, none⟩)] w fun e w' => e = .returned (.int .i64 (aflush d).1) ∧ RD w' f (aflush d).2 ∧ Chg f.all w w' := by
  have c1 : w.cell? ⟨f.p, 1, none⟩ = some (.bool d.off) := h.head.cell rfl
  go_enter Tryz.func66, Tryz.ntmps66
  by_cases hoff : d.off = true
  · have e : aflush d = (25, d) := by simp [aflush, hoff]
    have E := Lib.hid e; clear e
    rw [hoff] at c1
    go_wp2
    go_ret
    rw [E.out]; exact ⟨rfl, h, Chg.refl _ _⟩
  · have hoff' : d.off = false := by simpa using hoff
    rw [hoff'] at c1
    by_cases hs : (astep d).1 = 0
    · have hk : aflush d = (0, { (astep d).2 with s := settleTo [] (apend d.s) d.s }) := by simp [aflush, hoff', hs]
      obtain ⟨d1, hd1⟩ : ∃ d1, d1 = (astep d).2 := ⟨_, rfl⟩
      have hs1 : d1.s = d.s := by rw [hd1, astep_s]
      rw [← hd1, ← hs1, settleTo_sall] at hk
      have HK := Lib.hid hk; clear hk
      have HS1 := Lib.hid hs1; clear hs1
      go_wp2_with fail
      refine (rstep_any f d _ h).mono ?_
      rintro e w1 ⟨rfl, h1, hc1⟩
      rw [hs]
      rw [← hd1] at h1
      have HD1 := Lib.hid hd1; clear hd1
      go_wp2
      have hlen : d1.s.length ≤ 4096 := h1.ok.most
      go_loopw [4] (fun c wr => ∃ k : Nat, k ≤ d1.s.length ∧ c = .int .i64 k ∧ RD wr f { d1 with s := sallk [] d1.s k } ∧ Chg f.all w1 wr) (fun c _ => d1.s.length - (intOf c).toNat)
      case atStart => exact ⟨0, by omega, rfl, by rw [sallk_zero]; exact h1, Chg.refl _ _⟩
      case round =>
        obtain ⟨k, hk, rfl, hP, hC⟩ := hrel
        have hll := sallk_length [] d1.s hk
        have c0 : wr.cell? ⟨f.p, 0, none⟩ = some (.slice (some ⟨f.sb, 0, none⟩) d1.s.length f.cap) := by have := hP.head.cell (i := 0) rfl; rw [this]; simp only [hll]
        by_cases hkl : k < d1.s.length
        · have hat := sallk_at [] d1.s hkl
          have hil' : k < ({ d1 with s := sallk [] d1.s k } : DS).s.length := by show k < (sallk [] d1.s k).length; rw [hll]; exact hkl
          have hse : sec { d1 with s := sallk [] d1.s k } k = d1.s.getD k default := hat
          have hsu := sallk_succ [] d1.s hkl
          obtain ⟨b, hb⟩ : ∃ b, b = (d1.s.getD k default).p.isSome := ⟨_, rfl⟩
          have d2 : wr.cell? ⟨f.sb, k * 4 + 2, none⟩ = some (.bool b) := hP.cell hil' 2 (by decide) (by rw [hse, hb]; rfl)
          rw [← hb] at hsu
          have HL := Lib.hid hll; clear hll
          have HSU := Lib.hid hsu; clear hsu
          have HB := Lib.hid hb; clear hb
          have HSE := Lib.hid hse; clear hse
          have HA := Lib.hid hat; clear hat
          have HIL := Lib.hid hil'; clear hil'
          cases b with
          | true =>
            go_wp2_with fail
            refine (rsettle_any f { d1 with s := sallk [] d1.s k } k 64 _ hP (inR_nat HIL.out) (by rw [HSE.out, ← HB.out])).mono ?_
            rintro e w3 ⟨rfl, hP', hC'⟩
            go_wp2
            go_roundw
            case rel =>
              refine ⟨k + 1, by omega, by go_num, ?_, hC.trans hC'⟩
              rw [HSU.out]
              exact hP'
            case measure => simp [intOf]; omega
          | false =>
            go_wp2
            go_roundw
            case rel =>
              refine ⟨k + 1, by omega, by go_num, ?_, hC⟩
              rw [HSU.out]
              exact hP
            case measure => simp [intOf]; omega
        · obtain rfl : k = d1.s.length := by omega
          rw [sallk_all] at hP
          clear hll
          go_wp2
          go_ret
          rw [HK.out]
          exact ⟨rfl, hP, (hc1.mono (by simp [Rt.all])).trans hC⟩
    · have hk : aflush d = astep d := by simp [aflush, hoff', hs]
      have hs' : ((astep d).1 == 0) = false := by simpa using hs
      have hs2 : ((astep d).1 != 0) = true := by simpa using hs
      have HK := Lib.hid hk; clear hk
      go_wp2_with fail
      refine (rstep_any f d _ h).mono ?_
      rintro e w1 ⟨rfl, h1, hc1⟩
      go_wp2
      go_ret
      rw [HK.out]
      exact ⟨rfl, h1, hc1.mono (by simp [Rt.all])⟩
end Go.Proofs.YtbmnbdkbgpajeaaGreatDoor
end
/- Mount of the reference. -/
section
namespace Go.Proofs.YtbmnbdkbgpajeaaGreatDoor
open Go.RowKit Go.Own Go.Disk Go.BigFrame
attribute [local go_sem] setCell_twice str_size
set_option maxHeartbeats 1600000 in
set_option maxRecDepth 100000 in
theorem rmount_any (f : Rt) (d : DS) (ps : List Int) (sp : Option Addr) (pc : Nat) (w : World) (h : RD w f d) (hps : ps ≠ [] → Sl w 1 (.slice sp ps.length pc) ps.length (ps.map fun z => .int .i64 z)) (hpn : ps ≠ [] → ∀ b, (Value.slice sp ps.length pc).ownBlock = some b → b ∉ f.all) :
    Calls Tryz.prog 32 #[.pointer (some ⟨f.p, 0, none⟩), .slice sp ps.length pc] w fun e w' => e = .returned (.tuple #[]) ∧ RD w' f (amount d ps) ∧ Chg f.all w w' := by
  go_enter Tryz.func32, Tryz.ntmps32
  have HK : Hid (amount d ps = { s := sall ps d.s, off := false, left := -1 }) := Lib.hid (by unfold amount; rw [settleTo_sall])
  have HPS := Lib.hid hps; clear hps
  have hlen : d.s.length ≤ 4096 := h.ok.most
  go_wp2
  go_loopw [4, 5] (fun c4 c5 wr => ∃ k : Nat, k ≤ d.s.length ∧ c5 = .int .i64 k ∧ c4 = .int .i64 (cnt d.s k) ∧ RD wr f { d with s := sallk ps d.s k } ∧ Chg f.all w wr) (fun _ c _ => d.s.length - (intOf c).toNat)
  case atStart => exact ⟨0, by omega, rfl, rfl, by rw [sallk_zero]; exact h, Chg.refl _ _⟩
  case round =>
    obtain ⟨k, hk, rfl, rfl, hP, hC⟩ := hrel
    have hll := sallk_length ps d.s hk
    have c0 : wr.cell? ⟨f.p, 0, none⟩ = some (.slice (some ⟨f.sb, 0, none⟩) d.s.length f.cap) := by have := hP.head.cell (i := 0) rfl; rw [this]; simp only [hll]
    by_cases hkl : k < d.s.length
    · have hat := sallk_at ps d.s hkl
      have hil' : k < ({ d with s := sallk ps d.s k } : DS).s.length := by show k < (sallk ps d.s k).length; rw [hll]; exact hkl
      have hse : sec { d with s := sallk ps d.s k } k = d.s.getD k default := hat
      have hsu := sallk_succ ps d.s hkl
      have hcs := cnt_succ d.s k hkl
      obtain ⟨b, hb⟩ : ∃ b, b = (d.s.getD k default).p.isSome := ⟨_, rfl⟩
      have d2 : wr.cell? ⟨f.sb, k * 4 + 2, none⟩ = some (.bool b) := hP.cell hil' 2 (by decide) (by rw [hse, hb]; rfl)
      rw [← hb] at hsu hcs
      have HL := Lib.hid hll; clear hll
      have HSU := Lib.hid hsu; clear hsu
      have HCS := Lib.hid hcs; clear hcs
      have HB := Lib.hid hb; clear hb
      have HSE := Lib.hid hse; clear hse
      have HA := Lib.hid hat; clear hat
      have HIL := Lib.hid hil'; clear hil'
      obtain ⟨m, hm⟩ : ∃ m, m = cnt d.s k := ⟨_, rfl⟩
      have hm2 : m ≤ 4096 := by
        have : (d.s.take k).countP (fun x => x.p.isSome) ≤ (d.s.take k).length := List.countP_le_length
        rw [List.length_take] at this
        rw [hm]; unfold cnt; omega
      rw [← hm] at HSU HCS
      rw [← hm]
      have HM := Lib.hid hm; clear hm
      cases b with
      | true =>
        by_cases hpk : m < ps.length
        · have hne : ps ≠ [] := by intro e; rw [e] at hpk; simp at hpk
          have hS2 := (HPS.out hne).chg hC (hpn hne)
          clear hne
          obtain ⟨b1, off1, cap1, e0, hCs1, _⟩ := sl_cell hS2 (by omega)
          injection e0 with e0 _ e1
          subst e0 e1
          obtain ⟨p, hp⟩ : ∃ p, p = ps.getD m 64 := ⟨_, rfl⟩
          have cp : wr.cell? ⟨b1, off1 + m, none⟩ = some (.int .i64 p) := hCs1 m _ (by rw [List.getElem?_map, List.getElem?_eq_getElem hpk, hp, List.getD_eq_getElem?_getD, List.getElem?_eq_getElem hpk]; rfl)
          have HP := Lib.hid hp; clear hp
          go_wp2_with fail
          refine (rsettle_any f { d with s := sallk ps d.s k } k p _ hP (inR_nat HIL.out) (by rw [HSE.out, ← HB.out])).mono ?_
          rintro e w3 ⟨rfl, hP', hC'⟩
          go_wp2
          go_roundw
          case rel =>
            refine ⟨k + 1, by omega, by go_num, by rw [HCS.out]; first | rfl | go_num, ?_, hC.trans hC'⟩
            rw [HSU.out, ← HP.out]
            exact hP'
          case measure => simp [intOf]; omega
        · have hp : ps.getD m 64 = 64 := by rw [List.getD_eq_getElem?_getD, List.getElem?_eq_none (by omega)]; rfl
          have HP := Lib.hid hp; clear hp
          go_wp2_with fail
          refine (rsettle_any f { d with s := sallk ps d.s k } k 64 _ hP (inR_nat HIL.out) (by rw [HSE.out, ← HB.out])).mono ?_
          rintro e w3 ⟨rfl, hP', hC'⟩
          go_wp2
          go_roundw
          case rel =>
            refine ⟨k + 1, by omega, by go_num, by rw [HCS.out]; first | rfl | go_num, ?_, hC.trans hC'⟩
            rw [HSU.out, HP.out]
            exact hP'
          case measure => simp [intOf]; omega
      | false =>
        go_wp2
        go_roundw
        case rel =>
          refine ⟨k + 1, by omega, by go_num, by rw [HCS.out]; first | rfl | go_num, ?_, hC⟩
          rw [HSU.out]
          exact hP
        case measure => simp [intOf]; omega
    · obtain rfl : k = d.s.length := by omega
      rw [sallk_all] at hP
      clear hll
      have hB := hP.head
      have hfr := hB.frozen
      have c1 : wr.cell? ⟨f.p, 1, none⟩ = some (.bool d.off) := hB.cell rfl
      have c2 : wr.cell? ⟨f.p, 2, none⟩ = some (.int .i64 d.left) := hB.cell rfl
      have kk := hP.withHead (d' := { s := sall ps d.s, off := false, left := -1 }) (w' := (wr.setCell ⟨f.p, 1, none⟩ (.bool false)).setCell ⟨f.p, 2, none⟩ (.int .i64 (-1))) rfl (by simp) ((hB.set 1 _).set 2 _) (((Chg.refl _ _).set _ (by simp)).set _ (by simp))
      have hc9 : Chg f.all wr ((wr.setCell ⟨f.p, 1, none⟩ (.bool false)).setCell ⟨f.p, 2, none⟩ (.int .i64 (-1))) := ((Chg.refl _ _).set _ (by simp [Rt.all])).set _ (by simp [Rt.all])
      have HF := Lib.hid hP; clear hP
      go_wp2
      refine bodyPost_end (results_none rfl _ _ _) rfl ?_
      rw [HK.out]
      exact ⟨rfl, kk, hC.trans hc9⟩
end Go.Proofs.YtbmnbdkbgpajeaaGreatDoor
end
/- Image, Pending, Worn of the reference. -/
section
namespace Go.Disk
theorem pend_succR (s : List Sec) (k : Nat) : ((List.range (k + 1)).filter fun i => (s.getD i default).p.isSome) = ((List.range k).filter fun i => (s.getD i default).p.isSome) ++ if (s.getD k default).p.isSome then [k] else [] := by
  rw [List.range_succ, List.filter_append]
  congr 1
  simp [List.filter_cons]
theorem worn_succR (s : List Sec) (k : Nat) : ((List.range (k + 1)).filter fun i => (s.getD i default).w) = ((List.range k).filter fun i => (s.getD i default).w) ++ if (s.getD k default).w then [k] else [] := by
  rw [List.range_succ, List.filter_append]
  congr 1
  simp [List.filter_cons]
end Go.Disk
namespace Go.Proofs.YtbmnbdkbgpajeaaGreatDoor
open Go.RowKit Go.Own Go.Disk Go.BigFrame
attribute [local go_sem] setCell_twice str_size
theorem infoStrR : (Tryz.prog.info? 9).map (fun i => (i.zero, i.size, i.bytes)) = some (some (str []), 1, 16) := by kernel_rfl
theorem infoIntR : (Tryz.prog.info? 3).map (fun i => (i.zero, i.size, i.bytes)) = some (some (.int .i64 0), 1, 8) := by kernel_rfl
theorem hTisR : Tryz.prog.underlying 51 = some (.slice 3) := by kernel_rfl
set_option maxHeartbeats 1600000 in
set_option maxRecDepth 100000 in
theorem rimage_any (f : Rt) (d : DS) (w : World) (h : RD w f d) : Calls Tryz.prog 36 #[.pointer (some ⟨f.p, 0, none⟩)] w fun e w' => ∃ v, e = .returned v ∧ w'.ownsRow w.heap.size 9 1 v d.s.length ((aimage d.s).map str) ∧ Below w.heap.size w w' := by
  go_enter Tryz.func36, Tryz.ntmps36
  have hlen : d.s.length ≤ 4096 := h.ok.most
  have hal0 : (aimage d.s).length = d.s.length := by simp [aimage]
  have hal : ((aimage d.s).map str).length = d.s.length := by rw [List.length_map, hal0]
  go_wp2
  go_loopw [3, 4] (fun v c wr => ∃ k : Nat, k ≤ d.s.length ∧ c = .int .i64 k ∧ wr.ownsRow w.heap.size 9 1 v k (((aimage d.s).map str).take k) ∧ Below w.heap.size w wr) (fun _ c _ => d.s.length - (intOf c).toNat)
  case atStart => exact ⟨0, by omega, rfl, World.ownsRow_nil _ _ _ _, Below.refl _ _⟩
  case round =>
    obtain ⟨k, hk, rfl, how, hbr⟩ := hrel
    have h' := h.below hbr
    have c0 : wr.cell? ⟨f.p, 0, none⟩ = some (.slice (some ⟨f.sb, 0, none⟩) d.s.length f.cap) := h'.head.cell rfl
    by_cases hkl : k < d.s.length
    · obtain ⟨t, ht⟩ : ∃ t, t = (sec d k).t := ⟨_, rfl⟩
      have d0 : wr.cell? ⟨f.sb, k * 4, none⟩ = some (str t) := h'.cell hkl 0 (by decide) (by rw [ht]; rfl)
      have hat : ((aimage d.s).map str)[k]'(by omega) = str t := by
        rw [ht]; simp [aimage, sec, List.getD_eq_getElem?_getD, hkl]
      have hts := List.take_succ_eq_append_getElem (l := (aimage d.s).map str) (i := k) (by omega)
      rw [hat] at hts
      have HTS := Lib.hid hts; clear hts
      have HT := Lib.hid ht; clear ht
      have HA := Lib.hid hat; clear hat
      have hbsz := hbr.size
      have HOW := how.kept (World.grownBy_alloc wr (.cells #[str t] 9) none) (by rcases how.2 with ⟨rfl, _⟩ | ⟨g, cap, cur, rfl, _⟩ <;> simp [Value.ownBlock])
      go_wp2_with (refine wpList_append_sl rfl _ _ 22 rfl w.heap.size 9 (str []) 1 16 hTssD infoStrR rfl (by decide) _ k _ rfl HOW _ 1 [str t] rfl (sl_new _ _ _ 1 rfl (by decide)) (by intro u hu; simp at hu; rw [hu]; rfl) (by unfold maxLen; omega) (by omega) (by simp; omega) ?_)
      intro v' w' h1 h2
      rw [← HTS.out] at h1
      have hb9 : Below w.heap.size w w' := grown_below (hbr.trans (((Below.refl wr.heap.size wr).alloc (Nat.le_refl _) _).mono hbsz)) HOW h2 (by simp; omega)
      go_wp2
      go_roundw
      case rel => exact ⟨k + 1, by omega, by go_num, h1, hb9⟩
      case measure => simp [intOf]; omega
    · obtain rfl : k = d.s.length := by omega
      rw [List.take_of_length_le (by rw [hal]; exact Nat.le_refl _)] at how
      go_wp2
      go_ret
      exact ⟨_, rfl, how, hbr⟩
end Go.Proofs.YtbmnbdkbgpajeaaGreatDoor
end
/- New of the reference. -/
section
namespace Go.Disk
open Go.RowKit Go.Own
def zsec : Sec := { t := zeros, p := none, w := false }
def zcells : List Value := [str zeros, str [], .bool false, .bool false]
theorem rcells_rep_succ (k : Nat) : rcells (List.replicate (k + 1) zsec) = rcells (List.replicate k zsec) ++ zcells := by
  rw [List.replicate_succ']
  simp [rcells, List.flatMap_append]
  rfl
end Go.Disk
namespace Go.Proofs.YtbmnbdkbgpajeaaGreatDoor
open Go.RowKit Go.Own Go.Disk Go.BigFrame
attribute [local go_sem] setCell_twice str_size str_append bytes_extractR
attribute [local irreducible] SqC.SqW
theorem mk_bytes (n : Nat) (hn : n ≤ 1000000) (u : World) : (Instr.makeSlice 81 (.int .i64 n) (.int .i64 n)).run Tryz.prog u = .ok (.slice (some ⟨u.heap.size, 0, none⟩) n n) (u.alloc (.cells (Array.replicate n (byv 0)) 5)) := by
  obtain ⟨i, hi1, hi2, hi3, hi4⟩ := info_parts (P := Tryz.prog) (e := 5) (z := byv 0) (size := 1) (bytes := 1) (by kernel_rfl)
  have := run_make (P := Tryz.prog) u 81 5 i (byv 0) hTb hi1 hi2 .i64 .i64 n n (by omega) (Int.le_refl _) (by rw [hi4]; omega) (by omega)
  rw [this, hi3]
  simp only [Int.toNat_natCast, Nat.mul_one]
  have e : (byv 0).cells = #[byv 0] := rfl
  rw [e, madeCells_one, List.toArray_replicate]
theorem rnew_bad (n : Int) (hn : n < 1 ∨ 4096 < n) (w : World) : Calls Tryz.prog 9 #[.int .i64 n] w fun e w' => e = .returned (.tuple #[.pointer none, .int .i64 1]) ∧ w' = w := by
  go_enter Tryz.func9, Tryz.ntmps9
  by_cases h : n < 1
  · go_wp2
    go_ret2
    exact ⟨rfl, rfl⟩
  · have h2 : 4096 < n := by omega
    have h3 : 1 ≤ n := by omega
    clear h
    go_wp2
    go_ret2
    exact ⟨rfl, rfl⟩
theorem hTsecsR : Tryz.prog.underlying 78 = some (.slice 83) := by kernel_rfl
theorem infoSecZR : (Tryz.prog.info? 83).map (fun i => (i.zero, i.size, i.bytes)) = some (some (.agg #[str [], str [], .bool false, .bool false]), 4, 40) := by kernel_rfl
set_option maxHeartbeats 3200000 in
set_option maxRecDepth 100000 in
theorem rnew_any (n : Nat) (h1 : 1 ≤ n) (h2 : n ≤ 4096) (w : World) : Calls Tryz.prog 9 #[.int .i64 n] w fun e w' => ∃ f : Rt, e = .returned (.tuple #[.pointer (some ⟨f.p, 0, none⟩), .int .i64 0]) ∧ RD w' f (Disk.fresh n) ∧ (∀ x ∈ f.all, w.heap.size ≤ x) ∧ Below w.heap.size w w' := by
  have hmk : ∀ u : World, (Instr.makeSlice 81 (.int .i64 64) (.int .i64 64)).run Tryz.prog u = .ok (.slice (some ⟨u.heap.size, 0, none⟩) 64 64) (u.alloc (.cells (Array.replicate 64 (byv 0)) 5)) := fun u => mk_bytes 64 (by decide) u
  go_enter Tryz.func9, Tryz.ntmps9
  go_wp2
  obtain ⟨wo, hwo⟩ : ∃ wo : World, wo = w.alloc (.cells #[.slice none 0 0, .bool false, .int .i64 (-1)] 80) := ⟨_, rfl⟩
  have hbo : Below w.heap.size w wo := by rw [hwo]; exact alloc_below _ _
  have hso : wo.heap.size = w.heap.size + 1 := by rw [hwo, alloc_size]
  have hXo : Blk wo w.heap.size [.slice none 0 0, .bool false, .int .i64 (-1)] 80 := by rw [hwo]; exact Blk.new w _ _
  rw [← hwo]
  clear hwo
  obtain ⟨X, hX⟩ : ∃ X, X = w.heap.size := ⟨_, rfl⟩
  rw [← hX] at hXo hso hbo ⊢
  have HX := Lib.hid hX; clear hX
  go_loopw [5] (fun c wr => ∃ (k : Nat) (V : Value), k ≤ n ∧ c = .int .i64 k ∧ Blk wr X [V, .bool false, .int .i64 (-1)] 80 ∧ wr.ownsRow (X + 1) 83 4 V k (rcells (List.replicate k zsec)) ∧ Below X w wr ∧ X + 1 ≤ wr.heap.size) (fun c _ => n - (intOf c).toNat)
  case atStart => exact ⟨0, _, by omega, rfl, hXo, World.ownsRow_nil _ _ _ _, hbo, by omega⟩
  case round =>
    obtain ⟨k, V, hk, rfl, hXr, how, hbr, hsr⟩ := hrel
    by_cases hkl : k < n
    · go_wp2
      have hVX : some X ≠ V.ownBlock := by
        intro e
        have := (how.lt X e.symm).1
        omega
      have cV : wr.drew.cell? ⟨X, 0, none⟩ = some V := hXr.drew.cell rfl
      haveI : Nonempty (SqC.Come fun W => W.cell? ⟨X, 0, none⟩ = some V) := ⟨⟨_, cV⟩⟩
      refine SqC.wp_region_sqc 13 [5, 6, 8, 9, 12] (fun W => W.cell? ⟨X, 0, none⟩ = some V) (by kernel_rfl) (by kernel_rfl) (by kernel_rfl) cV ?_
      obtain ⟨wd, hwd⟩ : ∃ wd : World, wd = wr.drew := ⟨_, rfl⟩
      have bd : Below wr.heap.size wr wd := by rw [hwd]; exact (Below.refl _ _).drew
      have sd : wd.heap.size = wr.heap.size := by rw [hwd]; rfl
      rw [← hwd]
      clear hwd
      iterate 4 (refine SqC.quiet rfl rfl ?_; go_big_quiet_step (fail); refine wpQuiet_nil ?_)
      refine SqC.value V rfl rfl (by intro W cx; go_simp) ?_
      simp only [Act.put, List.setIfInBounds_toArray, List.set_cons_zero, List.set_cons_succ]
      -- make
      refine SqC.effectW rfl rfl ?_
      go_wp2
      obtain ⟨w1, hw1⟩ : ∃ w1 : World, w1 = wd.alloc (.cells (Array.replicate 64 (byv 0)) 5) := ⟨_, rfl⟩
      have b1 : Below wr.heap.size wr w1 := by rw [hw1]; exact bd.alloc (by rw [sd]; exact Nat.le_refl _) _
      have B1 : Blk w1 wr.heap.size (List.replicate 64 (byv 0)) 5 := by rw [hw1, ← sd]; exact blk_make wd 64 _ _
      rw [← hw1]
      have X1 := hXr.below b1 hXr.lt
      refine SqC.here rfl ?_ ?_
      · exact fun _ => X1.cell rfl
      -- string(..)
      have hcv := convB w1 (.slice (some ⟨wr.heap.size, 0, none⟩) 64 64) zeros ⟨rfl, .inr ⟨_, 0, 64, rfl, Nat.le_refl _, by decide, B1.cells0, B1.lt⟩⟩
      clear hw1
      refine SqC.effectW rfl rfl ?_
      go_wp2
      refine SqC.here rfl ?_ ?_
      · exact fun _ => X1.cell rfl
      refine SqC.quiet rfl rfl ?_; go_big_quiet_step (fail); refine wpQuiet_nil ?_
      -- the slice of one
      refine SqC.effectW rfl rfl ?_
      go_wp2
      obtain ⟨w2, hw2⟩ : ∃ w2 : World, w2 = w1.alloc (.cells #[str zeros, str [], .bool false, .bool false] 83) := ⟨_, rfl⟩
      have b2 : Below wr.heap.size wr w2 := by rw [hw2]; exact b1.alloc b1.size _
      have B2 : Blk w2 w1.heap.size [str zeros, str [], .bool false, .bool false] 83 := by rw [hw2]; exact Blk.new w1 _ _
      rw [← hw2]
      clear hw2
      have X2 := hXr.below b2 hXr.lt
      refine SqC.here rfl ?_ ?_
      · exact fun _ => X2.cell rfl
      -- append
      have HOW := own_below how b2
      have HSL : Sl w2 4 (.slice (some ⟨w1.heap.size, 0, none⟩) 1 1) 1 zcells := ⟨rfl, .inr ⟨_, 0, 1, rfl, Nat.le_refl _, by decide, B2.cells0, B2.lt⟩⟩
      have h1c : ∀ u ∈ zcells, u.oneCell' = true := by intro u hu; simp [zcells] at hu; rcases hu with rfl | rfl | rfl | rfl <;> rfl
      have hXb : Below X w w2 := hbr.trans (b2.mono (by omega))
      have hs2 := b2.size
      refine SqC.effectW rfl rfl ?_
      refine wpList_append_sl rfl _ _ 78 rfl (X + 1) 83 (.agg #[str [], str [], .bool false, .bool false]) 4 40 hTsecsR infoSecZR rfl (by decide) V k _ rfl HOW (.slice (some ⟨w1.heap.size, 0, none⟩) 1 1) 1 zcells rfl HSL h1c (by unfold maxLen; omega) (by omega) (by omega) ?_
      intro v' w3 hown hgr
      obtain ⟨sa', cap', rfl, _⟩ := Own.own_slice hown
      have X3 := X2.grown hgr hVX
      have b3 : Below X w w3 := grown_below hXb (own_weaken HOW (by omega)) hgr (by omega)
      have s3 := hgr.size
      simp only [Act.put, List.setIfInBounds_toArray, List.set_cons_zero, List.set_cons_succ]
      refine wpList_nil (SqC.here rfl ?_ ?_)
      · exact fun _ => X3.cell rfl
      iterate 2 (refine SqC.quiet rfl rfl ?_; go_big_quiet_step (fail); refine wpQuiet_nil ?_)
      -- the store
      have cx : w3.cell? ⟨X, 0, none⟩ = some V := X3.cell rfl
      have hfr := X3.frozen
      refine SqC.effectW rfl rfl ?_
      go_wp2
      refine SqC.here rfl (by intro h; first | exact h.elim | exact absurd rfl h) (SqC.nil ?_)
      have X4 := X3.set 0 (.slice sa' (k + 1) cap')
      have hVX2 : ∀ b, (Value.slice sa' (k + 1) cap').ownBlock = some b → b ∉ [X] := by
        intro b hb
        have := (hown.lt b hb).1
        simp; omega
      have how4 := own_chg hown ((Chg.refl [X] w3).set (a := ⟨X, 0, none⟩) (.slice sa' (k + 1) cap') (by simp)) hVX2
      have b4 : Below X w (w3.setCell ⟨X, 0, none⟩ (.slice sa' (k + 1) cap')) := b3.trans ((((Chg.refl [X] w3).set (a := ⟨X, 0, none⟩) (.slice sa' (k + 1) cap') (by simp))).below (by omega) (by simp))
      rw [← rcells_rep_succ] at how4
      have s4 : X + 1 ≤ (w3.setCell ⟨X, 0, none⟩ (.slice sa' (k + 1) cap')).heap.size := by rw [World.size_setCell]; omega
      go_wp2
      go_roundw
      case rel => exact ⟨k + 1, _, by omega, by go_num, X4, how4, b4, s4⟩
      case measure => simp [intOf]; omega
    · obtain rfl : k = n := by omega
      go_wp2
      go_ret2
      obtain ⟨g, cap, sp, rfl, hg1, hg2, hg3, hgB⟩ := own_blk how (by omega)
      have hl : (Disk.fresh k).s.length = k := by simp [Disk.fresh]
      refine ⟨⟨X, g, cap, sp⟩, rfl, ⟨by rw [hl]; exact ⟨hg2, hg3⟩, by rw [hl]; exact hXr, hgB, Ok.fresh k h1 h2, by show X ≠ g; omega⟩, ?_, ?_⟩
      · simp only [Rt.all, List.mem_cons, List.not_mem_nil, or_false]
        have := HX.out
        rintro x (rfl | rfl) <;> omega
      · rw [← HX.out]; exact hbr
end Go.Proofs.YtbmnbdkbgpajeaaGreatDoor
end
