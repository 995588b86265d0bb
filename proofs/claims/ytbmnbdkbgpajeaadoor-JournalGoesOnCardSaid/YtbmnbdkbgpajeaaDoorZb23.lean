/- journal: sanity. -/
import Derived.Test.YtbmnbdkbgpajeaaDoorZb22
import Derived.ProofKit
import Derived.Carry
import Derived.OpenShut
import Derived.ChangeSlices
import Derived.Deep.Strs
import Derived.Test.YtbmnbdkbgpajeaaDoorZb02
import Derived.LaidMore
import Derived.Stop.Joined
import Derived.Lib.LaidTab
/- journal: sanity. -/
section
namespace Go.Proofs.YtbmnbdkbgpajeaaDoor
open Go.RowKit Go.Own Go.Jn Go.Disk Go.BigFrame Go.Sha
/-- A disk and its journal, both made since w. -/
structure San (w W : World) (f : Ft) (J : Jf) (j : JS) (d : DS) : Prop where
  jm : JM W f J j
  pd : PD W f d
  b : Below w.heap.size w W
  hj : w.heap.size ≤ J.g
  hf : ∀ x ∈ f.all, w.heap.size ≤ x
theorem San.below {w W W' : World} {f : Ft} {J : Jf} {j : JS} {d : DS} (h : San w W f J j d) (hb : Below W.heap.size W W') : San w W' f J j d :=
  ⟨h.jm.below hb, h.pd.below hb, h.b.trans (hb.mono h.b.size), h.hj, h.hf⟩
theorem San.append {w W : World} {f : Ft} {J : Jf} {j : JS} {d : DS} (h : San w W f J j d) (hK : Cells w 2 0 (Kt.map U)) (h1 : 2 < w.heap.size) (t : List UInt8) (ht : t.length ≤ maxLen) :
    Calls Tryd.prog 16 #[.pointer (some ⟨J.g, 0, none⟩), str t] W fun e W' => ∃ J' : Jf, J'.g = J.g ∧ e = .returned (.tuple #[.int .i64 (aappend d j t).1, .int .i64 (aappend d j t).2.1]) ∧
      San w W' f J' (aappend d j t).2.2.1 (aappend d j t).2.2.2 := by
  refine (append_any h.jm h.pd (hK.below h.b h1) (Nat.lt_of_lt_of_le h1 h.b.size) t ht).mono ?_
  rintro e W' ⟨J', hg, rfl, hjm, hpd, hch, _⟩
  refine ⟨J', hg, rfl, hjm, hpd, h.b.trans (hch.below h.b.size fun x hx => ?_), by rw [hg]; exact h.hj, h.hf⟩
  rcases List.mem_append.1 hx with hx | hx
  · exact h.hf x hx
  · exact Nat.le_trans h.hj (h.jm.lo x hx).1
theorem San.rot {w W : World} {f : Ft} {J : Jf} {j : JS} {d : DS} (h : San w W f J j d) (i b : Int) : Calls Tryd.prog 24 #[.pointer (some ⟨f.p, 0, none⟩), .int .i64 i, .int .i64 b] W fun e w' => e = .returned (.int .i64 (arot d i b).1) ∧ San w w' f J j (arot d i b).2 := by
  refine (rot_any f d i b W h.pd).mono ?_
  rintro e w' ⟨rfl, h2, h3⟩
  exact ⟨rfl, h.jm.chg h3 (fun x hx => h.jm.apart x hx), h2, h.b.trans (h3.below h.b.size h.hf), h.hj, h.hf⟩
theorem San.open {w W : World} {f : Ft} {d : DS} (hP : PD W f d) (hb : Below w.heap.size w W) (hf : ∀ x ∈ f.all, w.heap.size ≤ x) (hK : Cells w 2 0 (Kt.map U)) (h1 : 2 < w.heap.size) (hoff : d.off = false) :
    Calls Tryd.prog 15 #[.pointer (some ⟨f.p, 0, none⟩)] W fun e W' => ∃ J : Jf, e = .returned (.tuple #[.pointer (some ⟨J.g, 0, none⟩), .int .i64 0]) ∧ San w W' f J (found (parts0 d)) d := by
  refine (open_any f d W hP hoff (hK.below hb h1) (Nat.lt_of_lt_of_le h1 hb.size)).mono ?_
  rintro e W' ⟨J, rfl, h2, h3, h4⟩
  exact ⟨J, rfl, h2, hP.below h4, hb.trans (h4.mono hb.size), Nat.le_trans hb.size h3, hf⟩
end Go.Proofs.YtbmnbdkbgpajeaaDoor
end
/- journal: sanity, the walk. -/
section
namespace Go.Proofs.YtbmnbdkbgpajeaaDoor
open Go.RowKit Go.Own Go.Jn Go.Disk Go.BigFrame Go.Sha
attribute [local irreducible] SqW
attribute [local go_sem] setCell_twice str_size op_str_eql op_str_neq
theorem repeat_any (w : World) : Calls Tryd.prog 23 #[.string ⟨#[120]⟩, .int .i64 50] w fun e w' => e = .returned (str tX) ∧ Below w.heap.size w w' :=
  Any.strings_Repeat Tryd.lays105 Tryd.Builder_Extra_105 ⟨#[120]⟩ 50 w (by decide) (by decide)
set_option maxRecDepth 100000 in
set_option maxHeartbeats 4000000 in
theorem sanity_any (w : World) (hK : Cells w 2 0 (Kt.map U)) (h1 : 2 < w.heap.size) : Calls Tryd.prog 5 #[] w fun e w' => e = .returned (.bool true) ∧ Below w.heap.size w w' := by
  have HK := Lib.hid hK; clear hK
  have HL := Lib.hid h1; clear h1
  go_enter Tryd.func5, Tryd.ntmps5
  have hnew := new_any 4 (by decide) (by decide) w
  have HN := Lib.hid hnew; clear hnew
  go_wp2_with fail
  refine HN.out.mono ?_
  rintro e w1 ⟨f, rfl, hP1, hf1, b1⟩
  clear HN
  have ho := San.open hP1 b1 hf1 HK.out HL.out rfl
  have ej : found (parts0 (fresh 4)) = j0 := by
    have := ex_open.1
    unfold aopen at this
    rw [if_neg (by decide)] at this
    injection this with this _
    injection this
  rw [ej] at ho
  have HO := Lib.hid ho; clear ho ej b1 hf1 hP1
  go_wp2_with fail
  refine HO.out.mono ?_
  rintro e w2 ⟨J, rfl, hS2⟩
  obtain ⟨G, vn, vb, vt⟩ := J
  have hn2 : Calls Tryd.prog 21 #[.pointer (some ⟨G, 0, none⟩)] w2 fun e w' => e = .returned (.int .i64 1) ∧ w' = w2 := next_any hS2.jm
  have hr2 := room_any hS2.jm hS2.pd
  rw [ex_open.2] at hr2
  dsimp only at hr2
  have HN2 := Lib.hid hn2; clear hn2
  have HR2 := Lib.hid hr2; clear hr2 HO
  have HS2 := Lib.hid hS2; clear hS2
  go_wp2_with (first | (refine HN2.out.mono ?_; rintro e w3 ⟨rfl, hw3⟩; subst hw3) | (refine HR2.out.mono ?_; rintro e w4 ⟨rfl, n2, hw4⟩; subst hw4))
  have hA := (HS2.out.below (below_drewN (Below.refl _ w3) n2)).append HK.out HL.out tA (by decide)
  rw [show aappend (fresh 4) j0 tA = eA from rfl, ex_a.1, ex_a.2] at hA
  dsimp only at hA
  have HA := Lib.hid hA; clear hA HN2 HR2 HS2
  refine HA.out.mono ?_
  rintro e w5 ⟨J', hg, rfl, hS5⟩
  clear HA
  obtain ⟨G', vn', vb', vt'⟩ := J'
  obtain rfl : G' = G := hg
  have HS5 := Lib.hid hS5; clear hS5
  go_wp2_with fail
  refine (repeat_any w5).mono ?_
  rintro e w6 ⟨rfl, b6⟩
  have hX := (HS5.out.below b6).append HK.out HL.out tX (by decide)
  rw [show aappend eA.2.2.2 eA.2.2.1 tX = eX from rfl, ex_x.1, ex_x.2.1] at hX
  dsimp only at hX
  have HX := Lib.hid hX; clear hX HS5 b6
  go_wp2_with fail
  refine HX.out.mono ?_
  rintro e w7 ⟨J', hg, rfl, hS7⟩
  clear HX
  obtain ⟨G'', vn'', vb'', vt''⟩ := J'
  obtain rfl : G'' = G' := hg
  have hr7 := room_any hS7.jm hS7.pd
  rw [ex_x.2.2.1] at hr7
  dsimp only at hr7
  have HR7 := Lib.hid hr7; clear hr7
  have HS7 := Lib.hid hS7; clear hS7
  go_wp2_with fail
  refine HR7.out.mono ?_
  rintro e w8 ⟨rfl, n8, rfl⟩
  have hrt := (HS7.out.below (below_drewN (Below.refl _ w7) n8)).rot 1 70
  rw [ex_x.2.2.2.1, show (arot eX.2.2.2 1 70).2 = dR from rfl] at hrt
  have HRT := Lib.hid hrt; clear hrt HS7 HR7
  go_wp2_with fail
  refine HRT.out.mono ?_
  rintro e w9 ⟨rfl, hS9⟩
  have ho := San.open hS9.pd hS9.b hS9.hf HK.out HL.out ex_x.2.2.2.2
  rw [show found (parts0 dR) = jR from rfl] at ho
  have HO := Lib.hid ho; clear ho hS9 HRT
  go_wp2_with fail
  refine HO.out.mono ?_
  rintro e w10 ⟨J, rfl, hS10⟩
  clear HO
  obtain ⟨H, un, ub, ut⟩ := J
  have hB := hS10.append HK.out HL.out tB (by decide)
  rw [show aappend dR jR tB = eB from rfl, ex_b.1, ex_b.2] at hB
  dsimp only at hB
  have HB := Lib.hid hB; clear hB hS10
  go_wp2_with fail
  refine HB.out.mono ?_
  rintro e w11 ⟨J', hg, rfl, hS11⟩
  clear HB
  obtain ⟨H', un', ub', ut'⟩ := J'
  obtain rfl : H' = H := hg
  have hC := hS11.append HK.out HL.out tC (by decide)
  rw [show aappend eB.2.2.2 eB.2.2.1 tC = eC from rfl, ex_c.1] at hC
  dsimp only at hC
  obtain ⟨xc, hxc⟩ : ∃ x, x = eC.1 := ⟨_, rfl⟩
  rw [← hxc] at hC
  have HC := Lib.hid hC; clear hC hS11 hxc
  go_wp2_with fail
  refine HC.out.mono ?_
  rintro e w12 ⟨J', hg, rfl, hS12⟩
  clear HC
  obtain ⟨H'', un'', ub'', ut''⟩ := J'
  obtain rfl : H'' = H' := hg
  have hp := pack_any 1 tA (by decide) w12 (HK.out.below hS12.b HL.out) (Nat.lt_of_lt_of_le HL.out hS12.b.size)
  rw [show packE 1 tA = (pack 1 tA, 0) from rfl, ex_u.2.1] at hp
  dsimp only at hp
  have HP := Lib.hid hp; clear hp
  have HS12 := Lib.hid hS12; clear hS12
  go_wp2_with fail
  refine HP.out.mono ?_
  rintro e w13 ⟨v, rfl, o13, b13⟩
  obtain ⟨sv, cv, rfl, _⟩ := own_slice o13
  have hS13 := HS12.out.below b13
  obtain ⟨g, o, rfl, hcell⟩ := sl_strcell (l := [sect 1 tA 0]) (Sl.of_owns o13) (q := 0) (by decide)
  have hun := unpackE_any (sect 1 tA 0) (by decide +kernel) w13 (HK.out.below hS13.b HL.out) (Nat.lt_of_lt_of_le HL.out hS13.b.size)
  rw [ex_u.1, show (prtC ⟨1, 0, 1, tA, true⟩).toArray = #[.int .i64 1, .int .i64 0, .int .i64 1, str tA, .bool true] from rfl] at hun
  obtain ⟨sc, hsc⟩ : ∃ sc, sc = sect 1 tA 0 := ⟨_, rfl⟩
  rw [← hsc] at hun
  have hcell2 : w13.cell? ⟨g, o, none⟩ = some (str sc) := by rw [hsc]; exact hcell
  have HUN := Lib.hid hun; clear hun hsc hcell o13
  have HS13 := Lib.hid hS13; clear hS13 HS12 b13 HP
  go_wp2_with fail
  refine HUN.out.mono ?_
  rintro e w14 ⟨rfl, b14⟩
  have hS14 := HS13.out.below b14
  have HS14 := Lib.hid hS14; clear hS14 HS13 b14 HUN hcell2
  go_wp2_with fail
  have hq := numbers_any HS14.out.jm
  rw [ex_c.2.1] at hq
  have HQ := Lib.hid hq; clear hq
  refine HQ.out.mono ?_
  rintro e w15 ⟨v15, rfl, o15, b15⟩
  clear HQ
  obtain ⟨s15, c15, rfl, _⟩ := own_slice o15
  have hS15 := HS14.out.below b15
  have HO15 := Lib.hid o15; clear o15
  have HS15 := Lib.hid hS15; clear hS15 HS14 b15
  go_wp2_with fail
  have hi15 := sameInts_any ([1, 3] : List Int) ([1, 3] : List Int) s15 (some ⟨w15.heap.size, 0, none⟩) c15 2 (w15.alloc (.cells #[.int .i64 1, .int .i64 3] 3)) ((Sl.of_owns HO15.out).alloc _) (sl_new w15 _ _ 2 rfl (by decide)) (.inl (by decide))
  rw [show (([1, 3] : List Int) == ([1, 3] : List Int)) = true from by decide] at hi15
  refine hi15.mono ?_
  rintro e w16 ⟨rfl, b16⟩
  have hS16 := (HS15.out.below (alloc_below _ _)).below b16
  have HS16 := Lib.hid hS16; clear hS16 HS15 b16 hi15 HO15
  go_wp2_with fail
  have hq := texts_any HS16.out.jm
  rw [ex_c.2.2.1] at hq
  have HQ := Lib.hid hq; clear hq
  refine HQ.out.mono ?_
  rintro e w17 ⟨v17, rfl, o17, b17⟩
  clear HQ
  obtain ⟨s17, c17, rfl, _⟩ := own_slice o17
  have hS17 := HS16.out.below b17
  have HO17 := Lib.hid o17; clear o17
  have HS17 := Lib.hid hS17; clear hS17 HS16 b17
  go_wp2_with fail
  have hi17 := sameTexts_any [tA, tB] [tA, tB] s17 (some ⟨w17.heap.size, 0, none⟩) c17 2 (w17.alloc (.cells #[str tA, str tB] 9)) ((Sl.of_owns HO17.out).alloc _) (sl_new w17 _ _ 2 rfl (by decide)) (.inl (by decide))
  rw [show ([tA, tB] == [tA, tB]) = true from by decide] at hi17
  refine hi17.mono ?_
  rintro e w18 ⟨rfl, b18⟩
  have hS18 := (HS17.out.below (alloc_below _ _)).below b18
  have HS18 := Lib.hid hS18; clear hS18 HS17 b18 hi17 HO17
  go_wp2_with fail
  have hq := damaged_any HS18.out.jm
  rw [ex_c.2.2.2.1] at hq
  have HQ := Lib.hid hq; clear hq
  refine HQ.out.mono ?_
  rintro e w19 ⟨v19, rfl, o19, b19⟩
  clear HQ
  obtain ⟨s19, c19, rfl, _⟩ := own_slice o19
  have hS19 := HS18.out.below b19
  have HO19 := Lib.hid o19; clear o19
  have HS19 := Lib.hid hS19; clear hS19 HS18 b19
  go_wp2_with fail
  have hi19 := sameInts_any ([2] : List Int) ([2] : List Int) s19 (some ⟨w19.heap.size, 0, none⟩) c19 1 (w19.alloc (.cells #[.int .i64 2] 3)) ((Sl.of_owns HO19.out).alloc _) (sl_new w19 _ _ 1 rfl (by decide)) (.inl (by decide))
  rw [show (([2] : List Int) == ([2] : List Int)) = true from by decide] at hi19
  refine hi19.mono ?_
  rintro e w20 ⟨rfl, b20⟩
  have hS20 := (HS19.out.below (alloc_below _ _)).below b20
  have HS20 := Lib.hid hS20; clear hS20 HS19 b20 hi19 HO19
  go_wp2_with fail
  have hq := bad_any HS20.out.jm
  rw [ex_c.2.2.2.2] at hq
  have HQ := Lib.hid hq; clear hq
  refine HQ.out.mono ?_
  rintro e w21 ⟨v21, rfl, o21, b21⟩
  clear HQ
  obtain ⟨s21, c21, rfl, _⟩ := own_slice o21
  have hS21 := HS20.out.below b21
  have HO21 := Lib.hid o21; clear o21
  have HS21 := Lib.hid hS21; clear hS21 HS20 b21
  go_wp2_with fail
  have hi21 := sameInts_any ([1] : List Int) ([1] : List Int) s21 (some ⟨w21.heap.size, 0, none⟩) c21 1 (w21.alloc (.cells #[.int .i64 1] 3)) ((Sl.of_owns HO21.out).alloc _) (sl_new w21 _ _ 1 rfl (by decide)) (.inl (by decide))
  rw [show (([1] : List Int) == ([1] : List Int)) = true from by decide] at hi21
  refine hi21.mono ?_
  rintro e w22 ⟨rfl, b22⟩
  have hS22 := (HS21.out.below (alloc_below _ _)).below b22
  have HS22 := Lib.hid hS22; clear hS22 HS21 b22 hi21 HO21
  go_wp2_with fail
  have hc49 := count_any 49 w22
  rw [ex_u.2.2] at hc49
  refine hc49.mono ?_
  rintro e w23 ⟨rfl, hw23⟩
  subst hw23
  clear hc49
  have hb := HS22.out.b
  go_wp2
  go_ret
  exact ⟨rfl, hb⟩
end Go.Proofs.YtbmnbdkbgpajeaaDoor
end
/- A law's row out of its walk: it returns true and below the old heap's size nothing has turned. Any program. -/
section
namespace Go.Own
open Go.ChangeShapes Go.WideShapes Go.ChangeAt Go.RowKit
variable {H : Type} {enc : TypeId × Value → H} {P : Program}
theorem trodAll_below (hl : laidOutB P = true) {W W' : World} (hb : Below W.heap.size W W') : ∀ {ts : List TypeId} {vs : List Value} {ds : List (DataW H)} {ps : List MemPlace}, (ts.all fun t => P.readableRec t && decide (t < P.types.size)) = true →
    DataW.TrodAll enc P W 0 (fun _ => true) true ts vs ds ps → (∀ x ∈ ps, x.block < W.heap.size) → DataW.TrodAll enc P W' 0 (fun b => decide (b < W.heap.size)) true ts vs ds ps
  | [], [], [], _, _, h, _ => h
  | _ :: _, _ :: _, _ :: _, _, hT, ⟨p, q, h1, h2, e⟩, hs => by
    rw [List.all_cons, Bool.and_eq_true, Bool.and_eq_true, decide_eq_true_eq] at hT
    exact ⟨p, q, Below.trod hl hT.1.1 hT.1.2 h1 hb (fun x hx => hs x (by rw [e]; exact List.mem_append_left _ hx)), trodAll_below hl hb hT.2 h2 (fun x hx => hs x (by rw [e]; exact List.mem_append_right _ hx)), e⟩
theorem law_post (hl : laidOutB P = true) {f : Func} {s : ChangeSpec} {fresh handsOn : Bool} {W W' : World} {args : Array Value} {ds gs : List (DataW H)} {before : List MemPlace} {b : TypeId}
    (hr : (f.params.toList.all fun t => P.readableRec t && decide (t < P.types.size)) = true) (hres : f.resultTypes = #[b]) (hub : P.underlying b = some .bool) (hv : s.vars = [])
    (hs : (s.fn H (ds ++ gs)).results = [.lit (.bool true)] ∧ (s.fn H (ds ++ gs)).args = ds ∧ (s.fn H (ds ++ gs)).vars = [])
    (hW : DataW.Whole enc P f.params.toList s.vars false W args.toList ds gs before) (hb : Below W.heap.size W W') :
    s.post enc P f false fresh handsOn false W args (.bool true) W' := by
  have hW' := hW
  obtain ⟨p, q, hA, hV, hbe, hfz, hnd⟩ := hW
  have hlt : ∀ x ∈ p, x.block < W.heap.size := fun x hx => hW'.lt x (by rw [hbe]; exact List.mem_append_left _ hx)
  refine ⟨ds, gs, before, [], p, [], hW', ?_, ?_, ?_, hb.frame _, fun h => by cases h⟩
  · rw [hs.1, hres]; exact trodAll_mk1 (shut_bool hub _)
  · rw [hs.2.1]; exact trodAll_below hl hb hr hA hlt
  · rw [hs.2.2, hv]; exact rfl
end Go.Own
namespace Go.Own
open Go.ChangeShapes Go.WideShapes Go.ChangeAt Go.RowKit
section
variable {H : Type} {enc : TypeId × Value → H} {P : Program} {W : World}
theorem shape_lt {w : World} {b : Nat} {x : TypeId × Nat} (h : w.shape? b = some x) : b < w.heap.size := by
  rcases Nat.lt_or_ge b w.heap.size with h' | h'
  · exact h'
  · unfold World.shape? at h
    simp [Array.getElem?_eq_none h'] at h
theorem slice_okW {r : Reach} {b0 : Nat} {t e : TypeId} {a : Addr} {len cap : Nat} (ht : P.underlying t = some (.slice e)) (h : Value.okWide P W r b0 t (.slice (some a) len cap)) : a.spot = none ∧ a.block < W.heap.size := by
  unfold Value.okWide at h
  rw [ht] at h
  have h' : Cell.okWide P W r b0 t (.slice (some a) len cap) := h
  unfold Cell.okWide at h'
  rw [ht] at h'
  have h2 : Cell.ok P W r b0 t (.slice (some a) len cap) := h'
  unfold Cell.ok at h2
  rw [ht] at h2
  obtain ⟨_, _, hh⟩ := h2
  obtain ⟨_, h3, row, cells, h4, _⟩ := hh
  exact ⟨h3, shape_lt h4⟩
theorem sl_of_ints {r : Reach} {b0 : Nat} {t e : TypeId} {k : IntKind} {v : Value} {d : DataW H} {ps : List MemPlace} (ht : P.underlying t = some (.slice e)) (he : P.underlying e = some (.int k)) (hc : P.cellsOf e = 1)
    (hval : Value.okWide P W r b0 t v) (hd : DataW.Trod enc P W 0 (fun _ => true) true t v d ps) :
    ∃ zs : List Int, Sl W 1 v zs.length (zs.map (.int k)) ∧ zs.length ≤ maxLen ∧ ∀ z ∈ zs, (Lit.int k z).wf = true := by
  obtain ⟨fuel, hf⟩ := hd
  have hcell : v.cells.toList = [v] ∨ ∃ xs, v = .agg xs := by cases v <;> first | exact .inl rfl | exact .inr ⟨_, rfl⟩
  rcases open_ints ht he hc hf with ⟨hcs, _⟩ | ⟨a, len, cap, zs, hcs, _, hl, hm, hz, _, hcell', hwz⟩
  · have hv : v = .slice none 0 0 := by
      unfold Value.okWide at hval
      rw [ht] at hval
      cases v <;> simp [Value.cells] at hcs
      case slice => rw [hcs.1, hcs.2.1, hcs.2.2]
      case agg xs => exact absurd hval (by intro hv; have hv' : Cell.okWide P W r b0 t (.agg xs) := hv; unfold Cell.okWide at hv'; rw [ht] at hv'; have h2 : Cell.ok P W r b0 t (.agg xs) := hv'; unfold Cell.ok at h2; rw [ht] at h2; exact h2)
    exact ⟨[], ⟨rfl, .inl ⟨hv, rfl⟩⟩, Nat.zero_le _, by simp⟩
  · have hv : v = .slice (some a) len cap := by
      unfold Value.okWide at hval
      rw [ht] at hval
      cases v <;> simp [Value.cells] at hcs
      case slice => rw [hcs.1, hcs.2.1, hcs.2.2]
      case agg xs => exact absurd hval (by intro hv; have hv' : Cell.okWide P W r b0 t (.agg xs) := hv; unfold Cell.okWide at hv'; rw [ht] at hv'; have h2 : Cell.ok P W r b0 t (.agg xs) := hv'; unfold Cell.ok at h2; rw [ht] at h2; exact h2)
    subst hv
    obtain ⟨h1, h2⟩ := slice_okW ht hval
    obtain ⟨b, off, sp⟩ := a
    obtain rfl : sp = none := h1
    simp only [if_true] at hz
    refine ⟨zs.take len, ⟨by simp, .inr ⟨b, off, cap, by rw [List.length_take, hz, Nat.min_eq_left hl], by simp; omega, hm, fun i u hi => ?_, h2⟩⟩, by simp; omega, fun z hz' => hwz z (List.mem_of_mem_take hz')⟩
    have hil : i < len ∧ i < zs.length := by
      have := (List.getElem?_eq_some_iff.1 hi).1
      simp at this; omega
    have h3 := hcell' i hil.2
    rw [add_plain] at h3
    rw [h3, ← hi]
    simp [hil.1, hil.2]
theorem bytes_of_ints {zs : List Int} (h : ∀ z ∈ zs, (Lit.int .u8 z).wf = true) : ∃ m : List UInt8, zs = m.map fun b => (b.toNat : Int) := by
  refine ⟨zs.map fun z => UInt8.ofNat z.toNat, ?_⟩
  rw [List.map_map]
  conv => lhs; rw [← List.map_id zs]
  refine List.map_congr_left fun z hz => ?_
  have h1 := h z hz
  have h2 : (0 : Int) ≤ z ∧ z ≤ 255 := bounds_u8 h1
  simp; omega
theorem sl_of_bytes {r : Reach} {b0 : Nat} {t e : TypeId} {v : Value} {d : DataW H} {ps : List MemPlace} (ht : P.underlying t = some (.slice e)) (he : P.underlying e = some (.int .u8)) (hc : P.cellsOf e = 1)
    (hval : Value.okWide P W r b0 t v) (hd : DataW.Trod enc P W 0 (fun _ => true) true t v d ps) :
    ∃ m : List UInt8, Sl W 1 v m.length (m.map byv) ∧ m.length ≤ maxLen := by
  obtain ⟨zs, h1, h2, h3⟩ := sl_of_ints ht he hc hval hd
  obtain ⟨m, rfl⟩ := bytes_of_ints h3
  refine ⟨m, ?_, by simpa using h2⟩
  rw [List.map_map, List.length_map] at h1
  exact h1
theorem sl_of_strs {r : Reach} {b0 : Nat} {t e : TypeId} {v : Value} {d : DataW H} {ps : List MemPlace} (ht : P.underlying t = some (.slice e)) (he : P.underlying e = some .string) (hc : P.cellsOf e = 1)
    (hval : Value.okWide P W r b0 t v) (hd : DataW.Trod enc P W 0 (fun _ => true) true t v d ps) :
    ∃ l : List (List UInt8), Sl W 1 v l.length (l.map str) ∧ l.length ≤ maxLen ∧ ∀ s ∈ l, s.length ≤ maxLen := by
  obtain ⟨fuel, hf⟩ := hd
  have hno : ∀ xs, v ≠ .agg xs := by
    intro xs hv; subst hv
    unfold Value.okWide at hval
    rw [ht] at hval
    have hv' : Cell.okWide P W r b0 t (.agg xs) := hval
    unfold Cell.okWide at hv'; rw [ht] at hv'
    have h2 : Cell.ok P W r b0 t (.agg xs) := hv'
    unfold Cell.ok at h2; rw [ht] at h2; exact h2
  rcases Go.Deep.open_strs ht he hc hf with ⟨hcs, _⟩ | ⟨a, len, cap, m, Sx, hcs, _, hl, hm, hmm, _, hx⟩
  · have hv : v = .slice none 0 0 := by
      cases v <;> simp [Value.cells] at hcs
      case slice => rw [hcs.1, hcs.2.1, hcs.2.2]
      case agg xs => exact absurd rfl (hno xs)
    exact ⟨[], ⟨rfl, .inl ⟨hv, rfl⟩⟩, Nat.zero_le _, by simp⟩
  · have hv : v = .slice (some a) len cap := by
      cases v <;> simp [Value.cells] at hcs
      case slice => rw [hcs.1, hcs.2.1, hcs.2.2]
      case agg xs => exact absurd rfl (hno xs)
    subst hv
    obtain ⟨h1, h2⟩ := slice_okW ht hval
    obtain ⟨b, off, sp⟩ := a
    obtain rfl : sp = none := h1
    simp only [if_true] at hmm
    subst hmm
    refine ⟨(List.range len).map fun i => (Sx i).data.toList, ⟨by simp, .inr ⟨b, off, m, by simp, by simp; omega, hm, fun i u hi => ?_, h2⟩⟩, by simp; omega, fun s hs => ?_⟩
    · have hil : i < len := by
        have := (List.getElem?_eq_some_iff.1 hi).1
        simpa using this
      have h3 := (hx i (by omega)).1
      rw [add_plain] at h3
      rw [h3, ← hi]
      simp [hil]
    · obtain ⟨i, hi, rfl⟩ := List.mem_map.1 hs
      have hi' := List.mem_range.1 hi
      exact (hx i (by omega)).2
end
end Go.Own
end
/- journal: what the rows' condition on the tables gives the walks; the door's own start. -/
section
namespace Go.Proofs.YtbmnbdkbgpajeaaDoor
open Go.ChangeShapes Go.WideShapes Go.ChangeAt Go.RowKit Go.Sha Go.Own
theorem ownK : ownKnob Tryd.prog.godebug = none := by kernel_rfl
theorem laidOutK : laidOutB Tryd.prog = true := by kernel_rfl
theorem gRef : Tryd.prog.globalNamed "sherd/sherdref02.constants" = some 0 := by kernel_rfl
theorem gHash : Tryd.prog.globalNamed "sherd/hash.constants" = some 2 := by kernel_rfl
def Kz : List Int := Kt.map fun n : Nat => (n : Int)
theorem laid_eq : (Rows.laid_sherd_hash_constants : DataW Unit) = Lib.tabData .u32 Kz := by kernel_rfl
theorem laid_eq_ref : (Rows.laid_sherd_sherdref02_constants : DataW Unit) = Lib.tabData .u32 Kz := by kernel_rfl
theorem tab_cells {W : World} {name : String} {g : Nat} (hg : Tryd.prog.globalNamed name = some g) (h : Lib.TabIs Tryd.prog W name .u32 Kz) : Cells W g 0 (Kt.map U) ∧ g < W.heap.size := by
  have hC : Cells W g 0 (Kt.map U) := fun i v hi => by
    rw [Nat.zero_add, World.var?_cell hg h i]
    rw [← hi]
    simp [Kz]
    rfl
  refine ⟨hC, ?_⟩
  have h0 := hC 0 _ (show (Kt.map U)[0]? = some (U 1116352408) by rfl)
  rcases Nat.lt_or_ge g W.heap.size with h' | h'
  · exact h'
  · unfold World.cell? at h0
    simp [Array.getElem?_eq_none h'] at h0
theorem typeH : (Tryd.prog.globals[2]?).map (·.type) = some 123 := by kernel_rfl
theorem typeR : (Tryd.prog.globals[0]?).map (·.type) = some 123 := by kernel_rfl
abbrev lay1 : List (String × DataW Unit) := [("sherd/hash.constants", Rows.laid_sherd_hash_constants)]
abbrev lay2 : List (String × DataW Unit) := [("sherd/sherdref02.constants", Rows.laid_sherd_sherdref02_constants), ("sherd/hash.constants", Rows.laid_sherd_hash_constants)]
theorem of_laid1 {W : World} (h : laidMetH Tryd.prog lay1 W) : Cells W 2 0 (Kt.map U) ∧ 2 < W.heap.size := by
  rw [MakeChecks.laidMetH_plain _ _ _ (by kernel_rfl)] at h
  unfold lay1 at h
  rw [laid_eq] at h
  exact tab_cells gHash (Lib.tabIs_of_head gHash typeH Tryd.underlying123 Tryd.underlying109 (by kernel_rfl) (by kernel_rfl) h)
theorem of_laid2 {W : World} (h : laidMetH Tryd.prog lay2 W) : (Cells W 0 0 (Kt.map U) ∧ 0 < W.heap.size) ∧ Cells W 2 0 (Kt.map U) ∧ 2 < W.heap.size := by
  rw [MakeChecks.laidMetH_plain _ _ _ (by kernel_rfl)] at h
  unfold lay2 at h
  rw [laid_eq, laid_eq_ref] at h
  obtain ⟨ps, ⟨g0, t0, cs0, f0, p0, q0, hg0, ht0, hv0, hd0, ⟨g1, t1, cs1, f1, p1, q1, hg1, ht1, hv1, hd1, _, _⟩, _⟩, _, _⟩ := h
  obtain rfl := Option.some.inj (gRef.symm.trans hg0)
  obtain rfl := Option.some.inj (gHash.symm.trans hg1)
  obtain rfl := Option.some.inj (typeR.symm.trans ht0)
  obtain rfl := Option.some.inj (typeH.symm.trans ht1)
  have e0 := Lib.cells_of_tab Tryd.underlying123 Tryd.underlying109 (by kernel_rfl) (by kernel_rfl) hd0
  have e1 := Lib.cells_of_tab Tryd.underlying123 Tryd.underlying109 (by kernel_rfl) (by kernel_rfl) hd1
  have T0 : Lib.TabIs Tryd.prog W "sherd/sherdref02.constants" .u32 Kz := by unfold Lib.TabIs; rw [hv0, ← e0]
  have T1 : Lib.TabIs Tryd.prog W "sherd/hash.constants" .u32 Kz := by unfold Lib.TabIs; rw [hv1, ← e1]
  exact ⟨tab_cells gRef T0, tab_cells gHash T1⟩
theorem door_met1 (os : Os) (args : Array Value) : laidMetH Tryd.prog lay1 ((World.doorLaid Tryd.prog 4000 os).forCall (fun _ _ => 0) ⟨#[], args, []⟩).memory :=
  laidMetH_of_parts3 (fuel := 8) (laidMet_of_run' 8 (by kernel_rfl) (by kernel_rfl)) (by kernel_rfl) (by kernel_rfl)
theorem door_met2 (os : Os) (args : Array Value) : laidMetH Tryd.prog lay2 ((World.doorLaid Tryd.prog 4000 os).forCall (fun _ _ => 0) ⟨#[], args, []⟩).memory :=
  laidMetH_of_parts3 (fuel := 8) (laidMet_of_run' 8 (by kernel_rfl) (by kernel_rfl)) (by kernel_rfl) (by kernel_rfl)
end Go.Proofs.YtbmnbdkbgpajeaaDoor
end
/- journal: the reference: number, small, Checked. -/
section
namespace Go.Jn
theorem num_drop (s : List UInt8) {q : Nat} (h : q < s.length) : num (s.drop q) = s[q].toNat + 256 * num (s.drop (q + 1)) := by
  rw [List.drop_eq_getElem_cons h]
  rfl
theorem num_pow : ∀ (s : List UInt8), num s < 256 ^ s.length
  | [] => by simp [num]
  | b :: r => by
    have := num_pow r
    have := b.toNat_lt
    simp only [num, List.length_cons, Nat.pow_succ]
    omega
end Go.Jn
namespace Go.Proofs.YtbmnbdkbgpajeaaDoor
open Go.RowKit Go.Own Go.Jn Go.Disk Go.BigFrame Go.Sha
attribute [local irreducible] SqW
theorem str_index (W : World) (x : List UInt8) (k : Nat) (u : UInt8) (hk : k < x.length) (hu : u = x.getD k 0) : (Instr.index 9 (str x) (.int .i64 k)).run Tryd.prog W = .ok (byv u) W := by
  have hs : (⟨x.toArray⟩ : ByteArray).size = x.length := by simp [ByteArray.size]
  have h := run_index_string (P := Tryd.prog) W 9 ⟨x.toArray⟩ .i64 k hTs
  rw [h, dif_pos ⟨by omega, by rw [hs]; omega⟩]
  have e : (⟨x.toArray⟩ : ByteArray)[(k : Int).toNat]'(by rw [hs]; omega) = u := by
    rw [hu]
    show x.toArray[(k : Int).toNat]'(by simp; omega) = _
    simp [hk]
  rw [e]
set_option maxRecDepth 100000 in
theorem number_any (w : World) (s : List UInt8) (hs : s.length ≤ 4) : Calls Tryd.prog 31 #[str s] w fun e w' => e = .returned (.int .i64 (num s)) ∧ w' = w := by
  go_enter Tryd.func31, Tryd.ntmps31
  go_wp2_with fail
  go_loopw [3, 4] (fun v c wr => ∃ q : Nat, q ≤ s.length ∧ c = .int .i64 ((q : Int) - 1) ∧ v = .int .i64 (num (s.drop q)) ∧ wr = w) (fun _ c _ => (jInt c + 1).toNat)
  case atStart => exact ⟨s.length, Nat.le_refl _, rfl, by rw [List.drop_length]; rfl, rfl⟩
  case round =>
    obtain ⟨q, hq, rfl, rfl, rfl⟩ := hrel
    by_cases h0 : q = 0
    · subst h0
      rw [List.drop_zero]
      have hlt := num_pow s
      go_wp2
      go_ret
      exact ⟨rfl, rfl⟩
    · obtain ⟨p, rfl⟩ : ∃ p, q = p + 1 := ⟨q - 1, by omega⟩
      have hp : p < s.length := by omega
      have e1 : (((p + 1 : Nat) : Int) - 1) = (p : Int) := by omega
      have hix := str_index wr s p s[p] hp (by rw [List.getD_eq_getElem?_getD, List.getElem?_eq_getElem hp]; rfl)
      have hnd := num_drop s hp
      have hlt := num_pow (s.drop p)
      have hl4 : (s.drop p).length ≤ 4 := by rw [List.length_drop]; omega
      have h256 : (256 : Nat) ^ (s.drop p).length ≤ 256 ^ 4 := Nat.pow_le_pow_right (by decide) hl4
      rw [e1]
      obtain ⟨m, hm⟩ : ∃ m, m = num (s.drop (p + 1)) := ⟨_, rfl⟩
      obtain ⟨u, hu⟩ : ∃ u, u = s[p] := ⟨_, rfl⟩
      rw [← hm] at hnd ⊢
      rw [← hu] at hnd hix
      have hu2 := u.toNat_lt
      have hmb : m ≤ 16777216 := by omega
      have HND := Lib.hid hnd; clear hnd hm hu e1 h256 hlt
      go_wp2
      go_roundw
      case rel => exact ⟨p, by omega, rfl, by rw [HND.out]; go_num, trivial⟩
      case measure => simp [jInt]
theorem infoU8k : (Tryd.prog.info? 5).map (fun i => (i.zero, i.size, i.bytes)) = some (some (.int .u8 0), 1, 1) := by kernel_rfl
theorem hTu8k : Tryd.prog.underlying 36 = some (.slice 5) := by kernel_rfl
set_option maxRecDepth 100000 in
theorem small_any (w : World) (n many : Nat) (hm : many ≤ 4) (hn : n ≤ 1000000) : Calls Tryd.prog 28 #[.int .i64 n, .int .i64 many] w fun e w' => ∃ v, e = .returned v ∧ w'.ownsRow w.heap.size 5 1 v many ((le many n).map byv) ∧ Below w.heap.size w w' := by
  obtain ⟨B, hB⟩ : ∃ B, B = w.heap.size := ⟨_, rfl⟩
  rw [← hB]
  have HB := Lib.hid hB; clear hB
  go_enter Tryd.func28, Tryd.ntmps28
  go_wp2_with fail
  go_loopw [0, 5, 6] (fun a v c wr => ∃ q : Nat, q ≤ many ∧ c = .int .i64 q ∧ a = .int .i64 ((n / 256 ^ q : Nat) : Int) ∧ Hid (wr.ownsRow B 5 1 v q ((le q n).map byv)) ∧ Hid (Below B w wr)) (fun _ _ c _ => many - (jInt c).toNat)
  case atStart => exact ⟨0, Nat.zero_le _, rfl, by simp, Lib.hid (World.ownsRow_nil _ _ _ _), Lib.hid (Below.refl _ _)⟩
  case round =>
    obtain ⟨q, hq, rfl, rfl, hR, hW⟩ := hrel
    obtain ⟨so, co, rfl, _⟩ := own_slice hR.out
    by_cases hlt : q < many
    · have hlc : (q : Int) < many := by omega
      have hle := le_snoc q n
      have hdv : n / 256 ^ (q + 1) = n / 256 ^ q / 256 := by rw [Nat.pow_succ, Nat.div_div_eq_div_mul]
      have hdl : n / 256 ^ q ≤ n := Nat.div_le_self _ _
      obtain ⟨m, hm2⟩ : ∃ m, m = n / 256 ^ q := ⟨_, rfl⟩
      rw [← hm2] at hle hdv hdl ⊢
      have hby : byv (UInt8.ofNat m) = .int .u8 ((m : Int) % 256) := by
        unfold byv
        rw [UInt8.toNat_ofNat']
        congr 1
      have HLE := Lib.hid hle; clear hle
      have HDV := Lib.hid hdv; clear hdv hm2
      have HBY := Lib.hid hby; clear hby
      obtain ⟨i, hi1, hi2, hi3, hi4⟩ := info_parts infoU8k
      have HI := Lib.hid (show i.zero = some (.int .u8 0) ∧ i.size = 1 ∧ i.bytes = 1 from ⟨hi2, hi3, hi4⟩)
      have HI1 := Lib.hid hi1; clear hi1 hi2 hi3 hi4
      have hsz : B ≤ wr.heap.size := by have := hW.out.size; have := HB.out; omega
      go_wp2_with (refine wpList_append_lies _ rfl _ _ 36 rfl B 5 i (.int .u8 0) 1 1 hTu8k HI1.out HI.out.1 HI.out.2.1 HI.out.2.2 rfl (by decide) _ q _ rfl (own_below hR.out (alloc_below _ _)) ⟨wr.heap.size, 0, none⟩ 1 1 [_] rfl rfl (World.news_of_block (Blk.new wr _ 5)) (by intro u hu; simp at hu; rw [hu]; rfl) (by decide) (by unfold maxLen; omega) (by omega) (by simp; omega) _ rfl ?_)
      intro g5 cap5 w9 m1 m2 m3 m4
      have x2 : Below B w w9 := grown_below (base := B) (hW.out.alloc hsz _) (own_below hR.out (alloc_below wr _)) m2 (by simp; omega)
      have y2 : w9.ownsRow B 5 1 (.slice (some ⟨g5, 0, none⟩) (q + 1) cap5) (q + 1) ((le (q + 1) n).map byv) := by
        rw [HLE.out, List.map_append]
        show w9.ownsRow B 5 1 _ _ ((le q n).map byv ++ [byv (UInt8.ofNat m)])
        rw [HBY.out]
        exact m1
      have X2 := Lib.hid x2; clear x2
      have Y2 := Lib.hid y2; clear y2 m1 m2 m3 hR hW
      go_wp2
      go_roundw
      case rel => exact ⟨q + 1, by omega, by go_num, by rw [HDV.out]; go_num, Y2, X2⟩
      case measure => simp [jInt]; omega
    · obtain rfl : q = many := by omega
      go_wp2
      go_ret
      exact ⟨_, rfl, hR.out, hW.out⟩
set_option maxRecDepth 100000 in
theorem checked_any (w : World) (s : List UInt8) (sa : Option Addr) (ca : Nat) (hs : Sl w 1 (.slice sa s.length ca) s.length (s.map byv)) (hl : s.length ≤ 64)
    (hK : Cells w 0 0 (Kt.map U)) (h0 : 0 < w.heap.size) : Calls Tryd.prog 29 #[.slice sa s.length ca] w fun e w' => e = .returned (str (stamp s)) ∧ Below w.heap.size w w' := by
  have HSL := Lib.hid hs; clear hs
  go_enter Tryd.func29, Tryd.ntmps29
  go_wp2_with fail
  refine (rsum_any s sa ca w HSL.out (by omega) hK h0).mono ?_
  rintro e w1 ⟨rfl, b1⟩
  go_wp2_with (refine wpList_store_blk (ty := 101) (n := 32) (vs := (sha s).map byv) (Blk.new _ _ 101) rfl rfl rfl rfl rfl info32 (by simp [sha_length]) (by simp) (bytes_oneCell _) ?_)
  intro w2 hb2 ho2
  have b2 : Below w1.heap.size w1 w2 := ho2.below (alloc_below _ _) (Nat.le_refl _)
  have b3 : Below w.heap.size w w2 := b1.trans (b2.mono b1.size)
  obtain ⟨T, hT⟩ : ∃ T, T = w1.heap.size := ⟨_, rfl⟩
  rw [← hT] at hb2 ⊢
  have HB2 := Lib.hid hb2; clear hb2 hT b2 ho2 b1
  have hS2 := HSL.out.below b3
  have HB3 := Lib.hid b3; clear b3
  have e8 : ((sha s).take 8).length = 8 := by rw [List.length_take, sha_length]; rfl
  have hS3 := sl_part (sha s) HB2.out 0 8 32 (by rw [sha_length]; decide) (by decide)
  rw [List.drop_zero] at hS3
  have cv1 : ∀ n, (convert 36 9 (.slice sa s.length ca)).run Tryd.prog (w2.drewN n) = .ok (str s) (w2.drewN n) := fun n => conv22 _ _ s (hS2.below (below_drewN (Below.refl _ w2) n))
  have cv2 : ∀ n, (convert 36 9 (.slice (some ⟨T, 0, none⟩) 8 32)).run Tryd.prog (w2.drewN n) = .ok (str ((sha s).take 8)) (w2.drewN n) := fun n => conv22 _ _ _ (by have := hS3.below (below_drewN (Below.refl _ w2) n); exact this)
  have hst : s ++ (sha s).take 8 = stamp s := rfl
  have hll : (s ++ (sha s).take 8).length ≤ 72 := by rw [List.length_append, e8]; omega
  obtain ⟨t8, ht8⟩ : ∃ t8, t8 = (sha s).take 8 := ⟨_, rfl⟩
  rw [← ht8] at cv2 hst hll e8
  have HST := Lib.hid hst; clear hst ht8 hS2 hS3
  go_wp2_with fail
  refine wp_region_quiet_lit (by kernel_rfl) (by kernel_rfl) ?_
  iterate 6 (go_big_quiet_step (fail))
  refine wpQuiet_nil ?_
  rintro _ ⟨nq, rfl⟩
  go_wp2
  go_ret
  refine ⟨?_, below_drewN HB3.out nq⟩
  rw [← HST.out]
  show Ending.returned (.string (⟨s.toArray⟩ ++ ⟨t8.toArray⟩)) = .returned (str (s ++ t8))
  have e : (⟨s.toArray⟩ ++ ⟨t8.toArray⟩ : ByteArray) = ⟨(s ++ t8).toArray⟩ := by
    apply ByteArray.ext
    rw [ByteArray.data_append]
    simp
  rw [e]
end Go.Proofs.YtbmnbdkbgpajeaaDoor
end
/- journal: the reference: the text of a step. -/
section
namespace Go.Jn
def txt (u : UInt8) (q : Nat) : List UInt8 := (List.range q).map fun k => u + UInt8.ofNat k
theorem txt_succ (u : UInt8) (q : Nat) : txt u (q + 1) = txt u q ++ [u + UInt8.ofNat q] := by unfold txt; rw [List.range_succ, List.map_append]; rfl
theorem txt_len (u : UInt8) (q : Nat) : (txt u q).length = q := by simp [txt]
theorem textOf_txt (z : Int) (u : UInt8) : textOf z u = txt u (max 0 (min z 8100)).toNat := rfl
end Go.Jn
namespace Go.Proofs.YtbmnbdkbgpajeaaDoor
open Go.RowKit Go.Own Go.Jn Go.Disk Go.BigFrame Go.Sha
attribute [local irreducible] SqW
set_option maxRecDepth 100000 in
theorem rtext_any (w : World) (a b c z : Int) (u : UInt8) (pv : Value) : Calls Tryd.prog 17 #[.agg #[.int .i64 a, .int .i64 b, .int .i64 c, .int .i64 z, byv u, pv]] w fun e w' => e = .returned (str (textOf z u)) ∧ Below w.heap.size w w' := by
  rw [textOf_txt]
  obtain ⟨n, hn⟩ : ∃ n : Nat, n = (max 0 (min z 8100)).toNat := ⟨_, rfl⟩
  have hn2 : max 0 (min z 8100) = (n : Int) := by omega
  have hn3 : min (max z 0) 8100 = (n : Int) := by omega
  have hn9 : n ≤ 8100 := by omega
  rw [← hn]
  have HN := Lib.hid hn; clear hn hn2
  go_enter Tryd.func17, Tryd.ntmps17
  go_wp2_with fail
  obtain ⟨G, hG⟩ : ∃ G, G = w.heap.size := ⟨_, rfl⟩
  rw [← hG]
  obtain ⟨W1, hW1⟩ : ∃ W1, W1 = w.alloc (.cells #[.int .i64 a, .int .i64 b, .int .i64 c, .int .i64 z, byv u, pv] 46) := ⟨_, rfl⟩
  have bW : Below w.heap.size w W1 := by rw [hW1]; exact alloc_below _ _
  have kW : Blk W1 G [.int .i64 a, .int .i64 b, .int .i64 c, .int .i64 z, byv u, pv] 46 := by rw [hW1, hG]; exact Blk.new _ _ _
  have sW : W1.heap.size = G + 1 := by rw [hW1, hG, alloc_size]
  first | rw [← hW1] | skip
  have HBW := Lib.hid bW; clear bW
  have HSW := Lib.hid sW; clear sW
  have HW1 := Lib.hid hW1; clear hW1
  have HG := Lib.hid hG; clear hG
  go_loopw [4, 5] (fun v c wr => ∃ q : Nat, q ≤ n ∧ c = .int .i64 q ∧ Hid (wr.ownsRow (G + 1) 5 1 v q ((txt u q).map byv)) ∧ Hid (Below (G + 1) W1 wr)) (fun _ c _ => n - (jInt c).toNat)
  case atStart => exact ⟨0, Nat.zero_le _, rfl, Lib.hid (World.ownsRow_nil _ _ _ _), Lib.hid (Below.refl _ _)⟩
  case round =>
    obtain ⟨q, hq, rfl, hR, hW⟩ := hrel
    obtain ⟨so, co, rfl, _⟩ := own_slice hR.out
    have kr := (kW.below hW.out (Nat.lt_succ_self G))
    have cf : wr.cell? ⟨G, 4, none⟩ = some (byv u) := kr.cell rfl
    have hGl := kr.lt
    have HK := Lib.hid kr; clear kr
    by_cases hlt : q < n
    · have hlc : (q : Int) < n := by omega
      have hle := txt_succ u q
      have hby : byv (u + UInt8.ofNat q) = .int .u8 (((u.toNat : Int) + (q : Int)) % 256) := by
        unfold byv
        rw [UInt8.toNat_add, UInt8.toNat_ofNat']
        congr 1
        push_cast
        omega
      have HLE := Lib.hid hle; clear hle
      have HBY := Lib.hid hby; clear hby
      obtain ⟨i, hi1, hi2, hi3, hi4⟩ := info_parts infoU8k
      have HI := Lib.hid (show i.zero = some (.int .u8 0) ∧ i.size = 1 ∧ i.bytes = 1 from ⟨hi2, hi3, hi4⟩)
      have HI1 := Lib.hid hi1; clear hi1 hi2 hi3 hi4
      have hsz : G + 1 ≤ wr.heap.size := by omega
      have hsw : W1.heap.size = G + 1 := HSW.out
      go_wp2_with (refine wpList_append_lies _ rfl _ _ 36 rfl (G + 1) 5 i (.int .u8 0) 1 1 hTu8k HI1.out HI.out.1 HI.out.2.1 HI.out.2.2 rfl (by decide) _ q _ rfl (own_below hR.out (alloc_below _ _)) ⟨wr.heap.size, 0, none⟩ 1 1 [_] rfl rfl (World.news_of_block (Blk.new wr _ 5)) (by intro u hu; simp at hu; rw [hu]; rfl) (by decide) (by unfold maxLen; omega) (by omega) (by simp; omega) _ rfl ?_)
      intro g5 cap5 w9 m1 m2 m3 m4
      have x2 : Below (G + 1) W1 w9 := grown_below (base := G + 1) (hW.out.alloc hsz _) (own_below hR.out (alloc_below wr _)) m2 (by simp; omega)
      have y2 : w9.ownsRow (G + 1) 5 1 (.slice (some ⟨g5, 0, none⟩) (q + 1) cap5) (q + 1) ((txt u (q + 1)).map byv) := by
        rw [HLE.out, List.map_append]
        show w9.ownsRow (G + 1) 5 1 _ _ ((txt u q).map byv ++ [byv (u + UInt8.ofNat q)])
        rw [HBY.out]
        exact m1
      have X2 := Lib.hid x2; clear x2
      have Y2 := Lib.hid y2; clear y2 m1 m2 m3 hR hW
      go_wp2
      go_roundw
      case rel => exact ⟨q + 1, by omega, by go_num, Y2, X2⟩
      case measure => simp [jInt]; omega
    · obtain rfl : n = q := by omega
      have hs : Sl wr 1 (.slice so (txt u n).length co) (txt u n).length ((txt u n).map byv) := by rw [txt_len]; exact Sl.of_owns hR.out
      have hcv : (convert 36 9 (.slice so n co)).run Tryd.prog wr = .ok (str (txt u n)) wr := by
        have := conv22 wr _ _ hs
        rw [txt_len] at this
        exact this
      go_wp2
      go_ret
      refine ⟨rfl, ?_⟩
      have h1 := HBW.out
      have h2 := hW.out
      have h3 := HG.out
      rw [h3] at h2
      exact h1.trans (h2.mono (by omega))
end Go.Proofs.YtbmnbdkbgpajeaaDoor
end
