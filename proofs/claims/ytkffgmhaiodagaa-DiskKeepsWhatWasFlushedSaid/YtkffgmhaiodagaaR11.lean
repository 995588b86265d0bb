/- Both disks at once: start, same. -/
import Derived.Test.YtkffgmhaiodagaaR10
namespace Go.Proofs.Ytkffgmhaiodagaa
open Go.RowKit Go.Own Go.Disk Go.BigFrame
attribute [local go_sem] setCell_twice str_size
/-- The program's disk and the reference's, alike, in new memory. -/
structure Both (w0 w : World) (f : Ft) (r : Rt) (d : DS) : Prop where
  pd : PD w f d
  rd : RD w r d
  fo : ∀ x ∈ f.all, w0.heap.size ≤ x
  ro : ∀ x ∈ r.all, w0.heap.size ≤ x
  dis : ∀ x ∈ f.all, x ∉ r.all
  below : Below w0.heap.size w0 w
theorem Both.far {w0 w w' : World} {f : Ft} {r : Rt} {d : DS} (h : Both w0 w f r d) (hb : Below w.heap.size w w') : Both w0 w' f r d :=
  ⟨h.pd.below hb, h.rd.below hb, h.fo, h.ro, h.dis, h.below.trans (hb.mono h.below.size)⟩
theorem start_bad (n : Int) (hn : n < 1 ∨ 64 < n) (w : World) : Calls Try.prog 10 #[.int .i64 n] w fun e w' => e = .returned (.tuple #[.pointer none, .pointer none, .bool false]) ∧ w' = w := by
  go_enter Try.func10, Try.ntmps10
  by_cases h : n < 1
  · go_wp2
    go_ret3
    exact ⟨rfl, rfl⟩
  · have h2 : 64 < n := by omega
    have h3 : 1 ≤ n := by omega
    clear h
    go_wp2
    go_ret3
    exact ⟨rfl, rfl⟩
theorem start_any (n : Nat) (h1 : 1 ≤ n) (h2 : n ≤ 64) (w : World) : Calls Try.prog 10 #[.int .i64 n] w fun e w' => ∃ f r, e = .returned (.tuple #[.pointer (some ⟨Ft.p f, 0, none⟩), .pointer (some ⟨Rt.p r, 0, none⟩), .bool true]) ∧ Both w w' f r (Disk.fresh n) := by
  go_enter Try.func10, Try.ntmps10
  have h3 : (1 : Int) ≤ n := by omega
  have h4 : (n : Int) ≤ 64 := by omega
  go_wp2_with fail
  refine (new_any n h1 (by omega) w).mono ?_
  rintro e w1 ⟨f, rfl, hP, hf, hb1⟩
  go_wp2_with fail
  refine (rnew_any n h1 (by omega) w1).mono ?_
  rintro e w2 ⟨r, rfl, hR, hr, hb2⟩
  have hlt := hP.lt
  have hb : Both w w2 f r (Disk.fresh n) := ⟨hP.below hb2, hR, hf, fun x hx => Nat.le_trans hb1.size (hr x hx), fun x hx hy => by have := hlt x hx; have := hr x hy; omega, hb1.trans (hb2.mono hb1.size)⟩
  go_wp2
  go_ret3
  exact ⟨f, r, rfl, hb⟩
theorem map_int_nat (l : List Nat) : (l.map fun (j : Nat) => Value.int .i64 (j : Int)) = (l.map fun (j : Nat) => (j : Int)).map (Value.int .i64) := by rw [List.map_map]; rfl
theorem apend_le (s : List Sec) : (apend s).length ≤ s.length := by
  have := List.length_filter_le (fun i => (s.getD i default).p.isSome) (List.range s.length)
  rw [List.length_range] at this
  exact this
theorem aworn_le (s : List Sec) : (aworn s).length ≤ s.length := by
  have := List.length_filter_le (fun i => (s.getD i default).w) (List.range s.length)
  rw [List.length_range] at this
  exact this
def ints (l : List Nat) : List Int := l.map fun (j : Nat) => (j : Int)
theorem ints_length (l : List Nat) : (ints l).length = l.length := by simp [ints]
theorem sl_ints {w : World} {base : Nat} {v : Value} {l : List Nat} (h : w.ownsRow base 3 1 v l.length (l.map fun (j : Nat) => .int .i64 j)) : ∃ sa cap, v = .slice sa (ints l).length cap ∧ Sl w 1 (.slice sa (ints l).length cap) (ints l).length ((ints l).map (.int .i64)) := by
  have h1 := Sl.of_owns h
  obtain ⟨sa, cap, rfl, _⟩ := sl_slice h1
  rw [ints_length]
  refine ⟨sa, cap, rfl, ?_⟩
  rw [map_int_nat] at h1
  exact h1
theorem sl_texts {w : World} {v : Value} {s : List Sec} (h : Sl w 1 v s.length ((aimage s).map str)) : ∃ sa cap, v = .slice sa (aimage s).length cap ∧ Sl w 1 (.slice sa (aimage s).length cap) (aimage s).length ((aimage s).map str) := by
  have hal : (aimage s).length = s.length := by simp [aimage]
  obtain ⟨sa, cap, rfl, _⟩ := sl_slice h
  rw [hal]
  exact ⟨sa, cap, rfl, h⟩
theorem imageS (f : Ft) (d : DS) (w : World) (h : PD w f d) : Calls Try.prog 15 #[.pointer (some ⟨f.p, 0, none⟩)] w fun e w' => ∃ sa cap, e = .returned (.slice sa (aimage d.s).length cap) ∧ Sl w' 1 (.slice sa (aimage d.s).length cap) (aimage d.s).length ((aimage d.s).map str) ∧ Below w.heap.size w w' :=
  (image_any f d w h).mono fun e w' ⟨v, h1, h2, _, h3⟩ => by obtain ⟨sa, cap, rfl, h4⟩ := sl_texts h2; exact ⟨sa, cap, h1, h4, h3⟩
theorem rimageS (f : Rt) (d : DS) (w : World) (h : RD w f d) : Calls Try.prog 40 #[.pointer (some ⟨f.p, 0, none⟩)] w fun e w' => ∃ sa cap, e = .returned (.slice sa (aimage d.s).length cap) ∧ Sl w' 1 (.slice sa (aimage d.s).length cap) (aimage d.s).length ((aimage d.s).map str) ∧ Below w.heap.size w w' :=
  (rimage_any f d w h).mono fun e w' ⟨v, h1, h2, h3⟩ => by obtain ⟨sa, cap, rfl, h4⟩ := sl_texts (Sl.of_owns h2); exact ⟨sa, cap, h1, h4, h3⟩
theorem pendS (f : Ft) (d : DS) (w : World) (h : PD w f d) : Calls Try.prog 22 #[.pointer (some ⟨f.p, 0, none⟩)] w fun e w' => ∃ sa cap, e = .returned (.slice sa (ints (apend d.s)).length cap) ∧ Sl w' 1 (.slice sa (ints (apend d.s)).length cap) (ints (apend d.s)).length ((ints (apend d.s)).map (.int .i64)) ∧ Below w.heap.size w w' :=
  (pending_any f d w h).mono fun e w' ⟨v, h1, h2, h3⟩ => by obtain ⟨sa, cap, rfl, h4⟩ := sl_ints h2; exact ⟨sa, cap, h1, h4, h3⟩
theorem rpendS (f : Rt) (d : DS) (w : World) (h : RD w f d) : Calls Try.prog 42 #[.pointer (some ⟨f.p, 0, none⟩)] w fun e w' => ∃ sa cap, e = .returned (.slice sa (ints (apend d.s)).length cap) ∧ Sl w' 1 (.slice sa (ints (apend d.s)).length cap) (ints (apend d.s)).length ((ints (apend d.s)).map (.int .i64)) ∧ Below w.heap.size w w' :=
  (rpending_any f d w h).mono fun e w' ⟨v, h1, h2, h3⟩ => by obtain ⟨sa, cap, rfl, h4⟩ := sl_ints h2; exact ⟨sa, cap, h1, h4, h3⟩
theorem wornS (f : Ft) (d : DS) (w : World) (h : PD w f d) : Calls Try.prog 23 #[.pointer (some ⟨f.p, 0, none⟩)] w fun e w' => ∃ sa cap, e = .returned (.slice sa (ints (aworn d.s)).length cap) ∧ Sl w' 1 (.slice sa (ints (aworn d.s)).length cap) (ints (aworn d.s)).length ((ints (aworn d.s)).map (.int .i64)) ∧ Below w.heap.size w w' :=
  (worn_any f d w h).mono fun e w' ⟨v, h1, h2, h3⟩ => by obtain ⟨sa, cap, rfl, h4⟩ := sl_ints h2; exact ⟨sa, cap, h1, h4, h3⟩
theorem rwornS (f : Rt) (d : DS) (w : World) (h : RD w f d) : Calls Try.prog 43 #[.pointer (some ⟨f.p, 0, none⟩)] w fun e w' => ∃ sa cap, e = .returned (.slice sa (ints (aworn d.s)).length cap) ∧ Sl w' 1 (.slice sa (ints (aworn d.s)).length cap) (ints (aworn d.s)).length ((ints (aworn d.s)).map (.int .i64)) ∧ Below w.heap.size w w' :=
  (rworn_any f d w h).mono fun e w' ⟨v, h1, h2, h3⟩ => by obtain ⟨sa, cap, rfl, h4⟩ := sl_ints h2; exact ⟨sa, cap, h1, h4, h3⟩
theorem sameT (l : List (List UInt8)) (sa sb : Option Addr) (ca cb : Nat) (w : World) (ha : Sl w 1 (.slice sa l.length ca) l.length (l.map str)) (hb : Sl w 1 (.slice sb l.length cb) l.length (l.map str)) (hm : l.length ≤ 1000000) :
    Calls Try.prog 21 #[.slice sa l.length ca, .slice sb l.length cb] w fun e w' => e = .returned (.bool true) ∧ Below w.heap.size w w' :=
  (sameTexts_any l l sa sb ca cb w ha hb (.inl hm)).mono fun e w' ⟨h1, h2⟩ => ⟨by rw [h1]; simp, h2⟩
theorem sameI (l : List Int) (sa sb : Option Addr) (ca cb : Nat) (w : World) (ha : Sl w 1 (.slice sa l.length ca) l.length (l.map (.int .i64))) (hb : Sl w 1 (.slice sb l.length cb) l.length (l.map (.int .i64))) (hm : l.length ≤ 1000000) :
    Calls Try.prog 41 #[.slice sa l.length ca, .slice sb l.length cb] w fun e w' => e = .returned (.bool true) ∧ Below w.heap.size w w' :=
  (sameInts_any l l sa sb ca cb w ha hb (.inl hm)).mono fun e w' ⟨h1, h2⟩ => ⟨by rw [h1]; simp, h2⟩
set_option maxHeartbeats 3200000 in
set_option maxRecDepth 100000 in
theorem same_any (f : Ft) (r : Rt) (d : DS) (w : World) (hp : PD w f d) (hr : RD w r d) : Calls Try.prog 13 #[.pointer (some ⟨f.p, 0, none⟩), .pointer (some ⟨r.p, 0, none⟩)] w fun e w' => e = .returned (.bool true) ∧ Below w.heap.size w w' := by
  have hmost := hp.ok.most
  have hal : (aimage d.s).length ≤ 1000000 := by simp [aimage]; omega
  have hap : (ints (apend d.s)).length ≤ 1000000 := by have := apend_le d.s; rw [ints_length]; omega
  have haw : (ints (aworn d.s)).length ≤ 1000000 := by have := aworn_le d.s; rw [ints_length]; omega
  go_enter Try.func13, Try.ntmps13
  go_wp2_with fail
  refine (imageS f d w hp).mono ?_
  rintro e w1 ⟨s1, c1, rfl, hI1, b1⟩
  have k1 : Below w.heap.size w w1 := b1
  go_wp2_with fail
  refine (rimageS r d w1 (hr.below k1)).mono ?_
  rintro e w2 ⟨s2, c2, rfl, hI2, b2⟩
  have k2 := k1.trans (b2.mono k1.size)
  go_wp2_with fail
  refine (sameT _ s1 s2 c1 c2 w2 (hI1.below b2) hI2 hal).mono ?_
  rintro e w3 ⟨rfl, b3⟩
  have k3 := k2.trans (b3.mono k2.size)
  clear hI1 hI2
  go_wp2_with fail
  refine (pendS f d w3 (hp.below k3)).mono ?_
  rintro e w4 ⟨s4, c4, rfl, hI4, b4⟩
  have k4 := k3.trans (b4.mono k3.size)
  go_wp2_with fail
  refine (rpendS r d w4 (hr.below k4)).mono ?_
  rintro e w5 ⟨s5, c5, rfl, hI5, b5⟩
  have k5 := k4.trans (b5.mono k4.size)
  go_wp2_with fail
  refine (sameI _ s4 s5 c4 c5 w5 (hI4.below b5) hI5 hap).mono ?_
  rintro e w6 ⟨rfl, b6⟩
  have k6 := k5.trans (b6.mono k5.size)
  clear hI4 hI5
  go_wp2_with fail
  refine (wornS f d w6 (hp.below k6)).mono ?_
  rintro e w7 ⟨s7, c7, rfl, hI7, b7⟩
  have k7 := k6.trans (b7.mono k6.size)
  go_wp2_with fail
  refine (rwornS r d w7 (hr.below k7)).mono ?_
  rintro e w8 ⟨s8, c8, rfl, hI8, b8⟩
  have k8 := k7.trans (b8.mono k7.size)
  go_wp2_with fail
  refine (sameI _ s7 s8 c7 c8 w8 (hI7.below b8) hI8 haw).mono ?_
  rintro e w9 ⟨rfl, b9⟩
  have k9 := k8.trans (b9.mono k8.size)
  clear hI7 hI8
  have hp9 := hp.below k9
  have hr9 := hr.below k9
  have K9 := Lib.hid k9
  clear k1 k2 k3 k4 k5 k6 k7 k8 k9 b1 b2 b3 b4 b5 b6 b7 b8 b9 hp hr
  go_wp2_with (first
    | (go_at_call 31; refine (len_any f d w9 hp9).mono ?_; rintro e w' ⟨rfl, rfl⟩)
    | (go_at_call 44; refine (rlen_any r d _ hr9).mono ?_; rintro e w' ⟨rfl, rfl⟩)
    | (go_at_call 27; refine (up_any f d _ hp9).mono ?_; rintro e w' ⟨rfl, rfl⟩)
    | (go_at_call 45; refine (rup_any r d _ hr9).mono ?_; rintro e w' ⟨rfl, rfl⟩))
  all_goals (go_ret; exact ⟨rfl, K9.out⟩)
end Go.Proofs.Ytkffgmhaiodagaa
