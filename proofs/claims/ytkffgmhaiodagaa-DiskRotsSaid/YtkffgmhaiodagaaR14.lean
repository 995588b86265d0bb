/- The walk over DiskRots. -/
import Derived.Test.YtkffgmhaiodagaaR13
namespace Go.Disk
theorem rotT_ne (bit : Nat) (hb : bit < 512) (t : List UInt8) (ht : t.length = 64) : rotT bit t ≠ t := by
  intro h
  have hk : bit / 8 < t.length := by omega
  have h1 := congrArg (fun l => l[bit / 8]?) h
  simp only [rotT, List.getElem?_modify, List.getElem?_eq_getElem hk] at h1
  simp at h1
  generalize t[bit / 8] = x at h1
  have h2 : x ^^^ (x ^^^ 1 <<< UInt8.ofNat (bit % 8)) = x ^^^ x := by rw [h1]
  rw [← UInt8.xor_assoc, UInt8.xor_self, UInt8.zero_xor] at h2
  have hm : bit % 8 < 8 := by omega
  generalize bit % 8 = m at h2 hm
  match m, hm with
  | 0, _ => revert h2; decide
  | 1, _ => revert h2; decide
  | 2, _ => revert h2; decide
  | 3, _ => revert h2; decide
  | 4, _ => revert h2; decide
  | 5, _ => revert h2; decide
  | 6, _ => revert h2; decide
  | 7, _ => revert h2; decide
end Go.Disk
namespace Go.Proofs.Ytkffgmhaiodagaa
open Go.RowKit Go.Own Go.Disk Go.BigFrame
attribute [local go_sem] setCell_twice str_size op_str_eql op_str_neq str_append bytes_extract
theorem xor_all : ∀ n : Fin 256, ∀ m : Fin 8, bits .xor .i64 (wrap64 (n.val : Int)) (wrap64 ((n.val ^^^ (1 <<< m.val) : Nat) : Int)) = wrap64 (2 ^ m.val) := by decide +kernel
theorem xor_none : ∀ n : Fin 256, bits .xor .i64 (wrap64 (n.val : Int)) (wrap64 (n.val : Int)) = 0 := by decide +kernel
theorem xor_self (u : UInt8) : bits .xor .i64 (wrap64 (u.toNat : Int)) (wrap64 (u.toNat : Int)) = 0 := xor_none ⟨u.toNat, u.toNat_lt⟩
theorem shl_all : ∀ m : Fin 8, ((1 : UInt8) <<< UInt8.ofNat m.val).toNat = 1 <<< m.val := by decide +kernel
theorem xor_rot (u : UInt8) (bit : Nat) : bits .xor .i64 (wrap64 (u.toNat : Int)) (wrap64 ((u ^^^ (1 <<< UInt8.ofNat (bit % 8))).toNat : Int)) = wrap64 (2 ^ (bit % 8)) := by
  have h8 : bit % 8 < 8 := by omega
  rw [UInt8.toNat_xor, shl_all ⟨bit % 8, h8⟩]
  exact xor_all ⟨u.toNat, u.toNat_lt⟩ ⟨bit % 8, h8⟩
theorem str_index (W : World) (x : List UInt8) (k : Nat) (u : UInt8) (hk : k < x.length) (hu : u = x.getD k 0) : (Instr.index 9 (str x) (.int .i64 k)).run Try.prog W = .ok (byv u) W := by
  have hs : (⟨x.toArray⟩ : ByteArray).size = x.length := by simp [ByteArray.size]
  have h := run_index_string (P := Try.prog) W 9 ⟨x.toArray⟩ .i64 k hTs
  rw [h, dif_pos ⟨by omega, by rw [hs]; omega⟩]
  have e : (⟨x.toArray⟩ : ByteArray)[(k : Int).toNat]'(by rw [hs]; omega) = u := by
    rw [hu]
    show x.toArray[(k : Int).toNat]'(by simp; omega) = _
    simp [hk]
  rw [e]
theorem imageO (f : Ft) (d : DS) (w : World) (h : PD w f d) : Calls Try.prog 15 #[.pointer (some ⟨f.p, 0, none⟩)] w fun e w' => ∃ sa cap, e = .returned (.slice sa (aimage d.s).length cap) ∧ Sl w' 1 (.slice sa (aimage d.s).length cap) (aimage d.s).length ((aimage d.s).map str) ∧ (∀ b, (Value.slice sa (aimage d.s).length cap).ownBlock = some b → w.heap.size ≤ b) ∧ Below w.heap.size w w' :=
  (image_any f d w h).mono fun e w' ⟨v, h1, h2, h3, h4⟩ => by obtain ⟨sa, cap, rfl, h5⟩ := sl_texts h2; exact ⟨sa, cap, h1, h5, h3, h4⟩
theorem ScrAt.opfacts1 {w0 w : World} {f : Ft} {d : DS} {l : List Opm} {sa : Option Addr} {cap : Nat} (hs : ScrAt w0 (.slice sa l.length cap) l) (hB : At w0 w f d) {k : Nat} {x : Opm} (hx : l[k]? = some x) :
    ∃ b off, sa = some ⟨b, off, none⟩ ∧ Cells w b (off + k * 5) (opcells x) ∧ (x.o.picks ≠ [] → Sl w 1 (.slice x.sp x.o.picks.length x.pc) x.o.picks.length (x.o.picks.map fun z => .int .i64 z)) ∧ (x.o.picks ≠ [] → ∀ b, (Value.slice x.sp x.o.picks.length x.pc).ownBlock = some b → b ∉ f.all) ∧ (-9223372036854775808 ≤ x.o.i ∧ x.o.i ≤ 9223372036854775807) := by
  have hm : x ∈ l := List.mem_of_getElem? hx
  obtain ⟨b, off, cap', e0, hC, hlt⟩ := hs.cells hx
  injection e0 with e0
  exact ⟨b, off, e0, hC.below hB.below hlt, fun hne => (hs.pk x hm hne).below hB.below, ScrAt.pkown (w0 := w0) hs hm hB.own, hs.rng x hm⟩
set_option maxHeartbeats 6400000 in
set_option maxRecDepth 100000 in
theorem rots_any (z : Int) (l : List Opm) (sa : Option Addr) (cap : Nat) (z2 z3 : Int) (w : World) (hs : ScrAt w (.slice sa l.length cap) l) : Calls Try.prog 7 #[.int .i64 z, .slice sa l.length cap, .int .i64 z2, .int .i64 z3] w fun e w' => e = .returned (.bool true) ∧ Below w.heap.size w w' := by
  go_enter Try.func7, Try.ntmps7
  go_wp2_with fail
  refine (sanity_any w).mono ?_
  rintro e w1 ⟨rfl, hb1⟩
  by_cases hz : z < 1
  · go_wp2_with fail
    refine (start_bad z (.inl hz) w1).mono ?_
    rintro e w2 ⟨rfl, rfl⟩
    go_wp2
    go_ret
    exact ⟨rfl, hb1⟩
  · have hz1 : 1 ≤ z := by omega
    clear hz
    by_cases hz : 64 < z
    · go_wp2_with fail
      refine (start_bad z (.inr hz) w1).mono ?_
      rintro e w2 ⟨rfl, rfl⟩
      go_wp2
      go_ret
      exact ⟨rfl, hb1⟩
    · have hz2 : z ≤ 64 := by omega
      clear hz
      obtain ⟨n, rfl⟩ : ∃ n : Nat, z = n := ⟨z.toNat, by omega⟩
      go_wp2_with fail
      refine (start_any n (by omega) (by omega) w1).mono ?_
      rintro e w2 ⟨f, r, rfl, hB⟩
      have hB2 : Both w w2 f r (Disk.fresh n) := ⟨hB.pd, hB.rd, fun x hx => Nat.le_trans hb1.size (hB.fo x hx), fun x hx => Nat.le_trans hb1.size (hB.ro x hx), hB.dis, hb1.trans (hB.below.mono hb1.size)⟩
      clear hB hb1
      by_cases hl : 60 < l.length
      · have hl' : (60 : Int) < l.length := by omega
        go_wp2
        go_ret
        exact ⟨rfl, hB2.below⟩
      · have hl' : (l.length : Int) ≤ 60 := by omega
        clear hl
        have hA2 : At w w2 f (Disk.fresh n) := ⟨hB2.pd, hB2.fo, hB2.below⟩
        clear hB2
        go_wp2
        go_loopw [13] (fun c wr => ∃ (k : Nat) (d : DS), k ≤ l.length ∧ c = .int .i64 k ∧ d.s.length = n ∧ At w wr f d) (fun c _ => l.length - (intOf c).toNat)
        case atStart => exact ⟨0, _, by omega, rfl, by simp [Disk.fresh], hA2⟩
        case round =>
          obtain ⟨k, d, hk, rfl, hdl, hB⟩ := hrel
          by_cases hkl : k < l.length
          · obtain ⟨x, hx⟩ : ∃ x, l[k]? = some x := ⟨l[k], by simp [hkl]⟩
            obtain ⟨b, off, rfl, hC1, hpk, hpn, hir⟩ := hs.opfacts1 hB hx
            have HX := Lib.hid hx; clear hx
            go_wp2_with (refine wpList_load_agg (opcells x) hC1 rfl rfl rfl aggOp infoOp ?_)
            refine (do_at x wr hB.pd hir hpk hpn).mono ?_
            rintro e w3 ⟨rfl, hP3, hc3⟩
            have hA3 := hB.chg hP3 hc3
            clear hC1 hpk hpn hir hP3 hc3 hB
            go_wp2
            go_roundw
            case rel => exact ⟨k + 1, _, by omega, by go_num, by rw [ado_len]; exact hdl, hA3⟩
            case measure => simp [intOf]; omega
          · obtain rfl : k = l.length := by omega
            have hlt := hB.pd.lt
            have hok := hB.pd.ok
            have HAL : Hid ((aimage d.s).length = n) := Lib.hid (by simp [aimage, hdl])
            go_wp2_with fail
            refine (imageO f d wr hB.pd).mono ?_
            rintro e w3 ⟨s1, c1, rfl, hI1, hIo1, b3⟩
            have hB3 := hB.far b3
            have hI1n : ∀ b, (Value.slice s1 (aimage d.s).length c1).ownBlock = some b → b ∉ f.all := fun b h h' => absurd (hIo1 b h) (Nat.not_le.2 (hlt b h'))
            clear hB b3 hIo1 hlt
            obtain ⟨d1, hd1⟩ : ∃ d1, d1 = (arot d z2 z3).2 := ⟨_, rfl⟩
            obtain ⟨ec, hec⟩ : ∃ ec, ec = (arot d z2 z3).1 := ⟨_, rfl⟩
            obtain ⟨hr1, hr2⟩ := arot_twice d z2 z3
            rw [← hd1] at hr1 hr2
            rw [← hec] at hr2
            have hd1l : d1.s.length = d.s.length := by rw [hd1]; unfold arot; split <;> simp [Disk.upd]
            have hrot : ∀ w, PD w f d → Calls Try.prog 19 #[.pointer (some ⟨f.p, 0, none⟩), .int .i64 z2, .int .i64 z3] w fun e w' => e = .returned (.int .i64 ec) ∧ PD w' f d1 ∧ Chg f.all w w' := fun w h => by rw [hec, hd1]; exact rot_any f d z2 z3 w h
            have hrot2 : ∀ w, PD w f d1 → Calls Try.prog 19 #[.pointer (some ⟨f.p, 0, none⟩), .int .i64 z2, .int .i64 z3] w fun e w' => e = .returned (.int .i64 ec) ∧ PD w' f d ∧ Chg f.all w w' := fun w h => by have := rot_any f d1 z2 z3 w h; rw [hr1, hr2] at this; exact this
            have HEC := Lib.hid hec; clear hec
            have HD1 := Lib.hid hd1; clear hd1
            clear hr1 hr2
            go_wp2_with fail
            refine (hrot w3 hB3.pd).mono ?_
            rintro e w4 ⟨rfl, hP4, hc4⟩
            have hB4 := hB3.chg hP4 hc4
            have hI4 := hI1.chg hc4 hI1n
            have hlt4 := hB4.pd.lt
            clear hB3 hI1 hP4 hc4
            go_wp2_with fail
            refine (imageO f d1 w4 hB4.pd).mono ?_
            rintro e w5 ⟨s2, c2, rfl, hJ5, hJo, b5⟩
            have hJn : ∀ b, (Value.slice s2 (aimage d1.s).length c2).ownBlock = some b → b ∉ f.all := fun b h h' => absurd (hJo b h) (Nat.not_le.2 (hlt4 b h'))
            have hB5 := hB4.far b5
            have hI5 := hI4.below b5
            clear hB4 hI4 b5 hJo hlt4
            go_wp2_with fail
            refine (hrot2 w5 hB5.pd).mono ?_
            rintro e w6 ⟨rfl, hP6, hc6⟩
            have hB6 := hB5.chg hP6 hc6
            have hI6 := hI5.chg hc6 hI1n
            have hJ6 := hJ5.chg hc6 hJn
            clear hB5 hI5 hJ5 hP6 hc6 hrot hrot2
            go_wp2_with fail
            refine (imageO f d w6 hB6.pd).mono ?_
            rintro e w7 ⟨s3, c3, rfl, hK7, _, b7⟩
            have hB7 := hB6.far b7
            have hI7 := hI6.below b7
            have hJ7 := hJ6.below b7
            clear hB6 hI6 hJ6 b7
            have HAL1 : Hid ((aimage d1.s).length = n) := Lib.hid (by simp [aimage, hd1l, hdl])
            go_wp2_with fail
            refine (sameT (aimage d.s) s1 s3 c1 c3 w7 hI7 hK7 (by rw [HAL.out]; omega)).mono ?_
            rintro e w8 ⟨rfl, b8⟩
            have hB9 := hB7.far b8
            have hI8 := hI7.below b8
            have hJ8 := hJ7.below b8
            clear hB7 hI7 hJ7 b8 hK7
            have hal := HAL.out
            have hal1 := HAL1.out
            rw [hal] at hI8
            rw [hal1] at hJ8
            rw [hdl] at hd1l
            clear HAL HAL1
            by_cases h1 : z2 < 0
            · have e1 : ec = 1 := by rw [HEC.out]; unfold arot; rw [if_neg (by simp [inR]; omega)]
              subst e1
              go_wp2
              go_ret
              exact ⟨rfl, hB9.below⟩
            · have g1 : 0 ≤ z2 := by omega
              clear h1
              by_cases h2 : (n : Int) ≤ z2
              · have e1 : ec = 1 := by rw [HEC.out]; unfold arot; rw [if_neg (by simp [inR]; omega)]
                subst e1
                go_wp2
                go_ret
                exact ⟨rfl, hB9.below⟩
              · have g2 : z2 < (n : Int) := by omega
                clear h2
                by_cases h3 : z3 < 0
                · have e1 : ec = 1 := by rw [HEC.out]; unfold arot; rw [if_neg (by simp [inR]; omega)]
                  subst e1
                  go_wp2
                  go_ret
                  exact ⟨rfl, hB9.below⟩
                · have g3 : 0 ≤ z3 := by omega
                  clear h3
                  by_cases h4 : 511 < z3
                  · have e1 : ec = 1 := by rw [HEC.out]; unfold arot; rw [if_neg (by simp [inR]; omega)]
                    subst e1
                    go_wp2
                    go_ret
                    exact ⟨rfl, hB9.below⟩
                  · have g4 : z3 ≤ 511 := by omega
                    clear h4
                    have hir : inR d z2 = true := by simp [inR]; omega
                    have he : arot d z2 z3 = (0, Disk.upd d z2 fun x => { x with t := rotT z3.toNat x.t }) := by unfold arot; rw [hir, if_pos (by simp; omega)]
                    have e1 : ec = 0 := by rw [HEC.out, he]
                    subst e1
                    have hd1s : d1.s = d.s.modify z2.toNat fun x => { x with t := rotT z3.toNat x.t } := by rw [HD1.out, he]; rfl
                    clear he
                    obtain ⟨at_, rfl⟩ : ∃ q : Nat, z2 = q := ⟨z2.toNat, by omega⟩
                    obtain ⟨bit, rfl⟩ : ∃ q : Nat, z3 = q := ⟨z3.toNat, by omega⟩
                    simp only [Int.toNat_natCast] at hd1s
                    have HD := Lib.hid hd1s; clear hd1s
                    have hat : at_ < d.s.length := by omega
                    obtain ⟨b1, o1, rfl, _, _, hC1, hl1⟩ := sl_cases hI8 (by omega)
                    obtain ⟨b2, o2, rfl, _, _, hC2, hl2⟩ := sl_cases hJ8 (by omega)
                    clear hI8 hJ8
                    go_wp2
                    go_loopw [19] (fun c wr => ∃ i : Nat, i ≤ n ∧ c = .int .i64 i ∧ Below w8.heap.size w8 wr) (fun c _ => n - (intOf c).toNat)
                    case atStart => exact ⟨0, by omega, rfl, Below.refl _ _⟩
                    case round =>
                      obtain ⟨i, hi, rfl, hbr⟩ := hrel
                      by_cases hin : i < n
                      · have hid : i < d.s.length := by omega
                        have hid1 : i < d1.s.length := by omega
                        obtain ⟨x, hx⟩ : ∃ x, x = (d.s.getD i default).t := ⟨_, rfl⟩
                        obtain ⟨y, hy⟩ : ∃ y, y = (d1.s.getD i default).t := ⟨_, rfl⟩
                        have cx : wr.cell? ⟨b1, o1 + i, none⟩ = some (str x) := (hC1.below hbr hl1) i _ (by rw [hx, List.getElem?_map, aimage, List.getElem?_map, List.getElem?_eq_getElem hid, List.getD_eq_getElem?_getD, List.getElem?_eq_getElem hid]; rfl)
                        have cy : wr.cell? ⟨b2, o2 + i, none⟩ = some (str y) := (hC2.below hbr hl2) i _ (by rw [hy, List.getElem?_map, aimage, List.getElem?_map, List.getElem?_eq_getElem hid1, List.getD_eq_getElem?_getD, List.getElem?_eq_getElem hid1]; rfl)
                        have hxl : x.length = 64 := by rw [hx]; exact hok.t _ (by rw [List.getD_eq_getElem?_getD, List.getElem?_eq_getElem hid]; exact List.getElem_mem hid)
                        have hyx : y = if at_ = i then rotT bit x else x := by
                          rw [hy, hx, HD.out, List.getD_eq_getElem?_getD, List.getElem?_modify, List.getD_eq_getElem?_getD, List.getElem?_eq_getElem hid]
                          by_cases e : at_ = i <;> simp [e]
                        have hyl : y.length = 64 := by rw [hyx]; split <;> simp [rotT_len, hxl]
                        have HX := Lib.hid hx; clear hx
                        have HY := Lib.hid hy; clear hy
                        by_cases e : at_ = i
                        · have hq : (x == y) = false := by
                            rw [hyx, if_pos e]
                            have := rotT_ne bit (by omega) x hxl
                            simpa using fun h => this h.symm
                          have hia : ((i : Int) == (at_ : Int)) = true := by simp; omega
                          have HYX := Lib.hid hyx; clear hyx
                          have HE := Lib.hid e; clear e
                          go_wp2
                          go_quiet (fail)
                          go_wp2
                          go_roundw
                          case rel => exact ⟨i + 1, by omega, by go_num, below_drewN hbr _⟩
                          case measure => simp [intOf]; omega
                        · have hq : (x == y) = true := by rw [hyx, if_neg e]; simp
                          have hia : ((i : Int) == (at_ : Int)) = false := by simp; omega
                          have HYX := Lib.hid hyx; clear hyx
                          have HE := Lib.hid e; clear e
                          go_wp2
                          go_quiet (fail)
                          go_wp2
                          go_roundw
                          case rel => exact ⟨i + 1, by omega, by go_num, below_drewN hbr _⟩
                          case measure => simp [intOf]; omega
                      · obtain rfl : i = n := by omega
                        have hB10 := hB9.far hbr
                        have hC1' := hC1.below hbr hl1
                        have hC2' := hC2.below hbr hl2
                        have hl1' := Nat.lt_of_lt_of_le hl1 hbr.size
                        have hl2' := Nat.lt_of_lt_of_le hl2 hbr.size
                        have hat1 : at_ < d1.s.length := by omega
                        obtain ⟨x, hx⟩ : ∃ x, x = (d.s.getD at_ default).t := ⟨_, rfl⟩
                        obtain ⟨y, hy⟩ : ∃ y, y = (d1.s.getD at_ default).t := ⟨_, rfl⟩
                        have cx : wr.cell? ⟨b1, o1 + at_, none⟩ = some (str x) := hC1' at_ _ (by rw [hx, List.getElem?_map, aimage, List.getElem?_map, List.getElem?_eq_getElem hat, List.getD_eq_getElem?_getD, List.getElem?_eq_getElem hat]; rfl)
                        have cy : wr.cell? ⟨b2, o2 + at_, none⟩ = some (str y) := hC2' at_ _ (by rw [hy, List.getElem?_map, aimage, List.getElem?_map, List.getElem?_eq_getElem hat1, List.getD_eq_getElem?_getD, List.getElem?_eq_getElem hat1]; rfl)
                        have hxl : x.length = 64 := by rw [hx]; exact hok.t _ (by rw [List.getD_eq_getElem?_getD, List.getElem?_eq_getElem hat]; exact List.getElem_mem hat)
                        have hyx : y = rotT bit x := by
                          rw [hy, hx, HD.out, List.getD_eq_getElem?_getD, List.getElem?_modify, List.getD_eq_getElem?_getD, List.getElem?_eq_getElem hat]
                          simp
                        have hyl : y.length = 64 := by rw [hyx]; simp [rotT_len, hxl]
                        have HX := Lib.hid hx; clear hx
                        have HY := Lib.hid hy; clear hy
                        have HYX := Lib.hid hyx; clear hyx
                        clear hC1 hC2 hl1 hl2 hbr hB9
                        obtain ⟨w9, hw9⟩ : ∃ w9, w9 = wr := ⟨_, rfl⟩
                        rw [← hw9] at hB10 cx cy ⊢
                        clear hw9 hC1' hC2' hl1' hl2'
                        have hlx := World.block_lt_of_cell? _ _ cx
                        have hly := World.block_lt_of_cell? _ _ cy
                        go_wp2
                        go_loopw [20] (fun c wr => ∃ k : Nat, k ≤ 64 ∧ c = .int .i64 k ∧ Below w9.heap.size w9 wr) (fun c _ => 64 - (intOf c).toNat)
                        case atStart => exact ⟨0, by omega, rfl, Below.refl _ _⟩
                        case round =>
                          obtain ⟨k, hk, rfl, hbr⟩ := hrel
                          by_cases hk64 : k < 64
                          · have cx1 : wr.cell? ⟨b1, o1 + at_, none⟩ = some (str x) := (hbr.cell (p := ⟨b1, o1 + at_, none⟩) hlx).trans cx
                            have cy1 : wr.cell? ⟨b2, o2 + at_, none⟩ = some (str y) := (hbr.cell (p := ⟨b2, o2 + at_, none⟩) hly).trans cy
                            obtain ⟨u, hu⟩ : ∃ u, u = x.getD k 0 := ⟨_, rfl⟩
                            obtain ⟨v, hv⟩ : ∃ v, v = y.getD k 0 := ⟨_, rfl⟩
                            have hux := fun W => str_index W x k u (by omega) hu
                            have hvy := fun W => str_index W y k v (by omega) hv
                            have huv : v = if bit / 8 = k then u ^^^ (1 <<< UInt8.ofNat (bit % 8)) else u := by
                              rw [hv, hu, HYX.out, rotT, List.getD_eq_getElem?_getD, List.getElem?_modify, List.getD_eq_getElem?_getD, List.getElem?_eq_getElem (by omega)]
                              by_cases e : bit / 8 = k <;> simp [e]
                            have HU := Lib.hid hu; clear hu
                            have HV := Lib.hid hv; clear hv
                            by_cases e : bit / 8 = k
                            · rw [if_pos e] at huv
                              have hk1 : ((k : Int) == (bit : Int) / 8) = true := by simp; omega
                              have hk2 : ((k : Int) != (bit : Int) / 8) = false := by simp; omega
                              have hxr : bits .xor .i64 (wrap64 (u.toNat : Int)) (wrap64 (v.toNat : Int)) = wrap64 (2 ^ (bit % 8)) := by rw [huv]; exact xor_rot u bit
                              have hxq : (bits .xor .i64 (wrap64 (u.toNat : Int)) (wrap64 (v.toNat : Int)) != wrap64 (2 ^ (bit % 8))) = false := by rw [hxr]; simp
                              have HUV := Lib.hid huv; clear huv
                              have HE := Lib.hid e; clear e
                              clear hxr
                              go_wp2
                              go_quiet (fail)
                              go_wp2
                              go_roundw
                              case rel => exact ⟨k + 1, by omega, by go_num, below_drewN hbr _⟩
                              case measure => simp [intOf]; omega
                            · rw [if_neg e] at huv
                              have hk1 : ((k : Int) == (bit : Int) / 8) = false := by simp; omega
                              have hk2 : ((k : Int) != (bit : Int) / 8) = true := by simp; omega
                              have hxr : bits .xor .i64 (wrap64 (u.toNat : Int)) (wrap64 (v.toNat : Int)) = 0 := by rw [huv]; exact xor_self u
                              have hxq : (bits .xor .i64 (wrap64 (u.toNat : Int)) (wrap64 (v.toNat : Int)) != 0) = false := by rw [hxr]; simp
                              have HUV := Lib.hid huv; clear huv
                              have HE := Lib.hid e; clear e
                              clear hxr
                              go_wp2
                              go_quiet (fail)
                              go_wp2
                              go_roundw
                              case rel => exact ⟨k + 1, by omega, by go_num, below_drewN hbr _⟩
                              case measure => simp [intOf]; omega
                          · obtain rfl : k = 64 := by omega
                            go_wp2
                            go_ret
                            exact ⟨rfl, hB10.below.trans (hbr.mono hB10.below.size)⟩
end Go.Proofs.Ytkffgmhaiodagaa
