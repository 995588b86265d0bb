/- order: the reference's isSet, Valid. -/
import Derived.Test.YtnkinjilnccmfaaQ6
import Derived.Test.YtnkinjilnccmfaaRf
namespace Go.Order
open Go.RowKit Go.Own Go.Proofs.Ytnkinjilnccmfaa Go.Ib
def isB (s : Int) : Bool := decide (1 ≤ s) && decide (s ≤ 65535)
def Spl.ok (x : Spl) : Bool := isB x.w && isB x.p && decide (bits .and .i64 x.p x.w = x.p) && decide (x.p ≠ x.w)
def errV (whole : Int) (may : List Spl) (stable : List Int) : Int :=
  if 4096 < may.length ∨ 4096 < stable.length then 4 else if isB whole && stable.all isB && may.all Spl.ok then 0 else 1
theorem isB_nat {s : Int} (h : isB s = true) : ∃ n : Nat, s = n ∧ 1 ≤ n ∧ n < 65536 := by
  unfold isB at h
  rw [Bool.and_eq_true, decide_eq_true_eq, decide_eq_true_eq] at h
  exact ⟨s.toNat, by omega, by omega, by omega⟩
theorem and_sb {p w : Nat} (hp : p < 65536) (hw : w < 65536) : bits .and .i64 (p : Int) (w : Int) = (p : Int) ↔ Sb p w := by
  rw [b_and p w (by omega) (by omega)]
  constructor
  · intro h k hk
    have h2 : p &&& w = p := by omega
    have h3 := congrArg (fun x => x.testBit k) h2
    simp only [Nat.testBit_and] at h3
    rw [hk] at h3
    simpa using h3
  · intro h
    congr 1
    apply Nat.eq_of_testBit_eq
    intro k
    rw [Nat.testBit_and]
    cases hk : p.testBit k with
    | false => simp
    | true => rw [h k hk]; rfl
/-- a valid split, as numbers -/
theorem Spl.ok_iff (x : Spl) : x.ok = true ↔ ∃ w p : Nat, x.w = w ∧ x.p = p ∧ Ok (w, p) := by
  unfold Spl.ok
  rw [Bool.and_eq_true, Bool.and_eq_true, Bool.and_eq_true, decide_eq_true_eq, decide_eq_true_eq]
  constructor
  · rintro ⟨⟨⟨h1, h2⟩, h3⟩, h4⟩
    obtain ⟨w, hw, w1, w2⟩ := isB_nat h1
    obtain ⟨p, hp, p1, p2⟩ := isB_nat h2
    rw [hw, hp] at h3 h4
    have sb := (and_sb p2 w2).1 h3
    have := sb.le
    exact ⟨w, p, hw, hp, ⟨p1, by show p < w; omega, w2, sb⟩⟩
  · rintro ⟨w, p, hw, hp, ⟨p1, pw, w6, sb⟩⟩
    dsimp only at p1 pw w6 sb
    rw [hw, hp]
    refine ⟨⟨⟨?_, ?_⟩, (and_sb (by omega) w6).2 sb⟩, by omega⟩
    · unfold isB; simp; omega
    · unfold isB; simp; omega
end Go.Order
namespace Go.Proofs.Ytnkinjilnccmfaa
open Go.RowKit Go.Own Go.BigFrame Go.Big Go.Order
theorem isset_any (s : Int) (w : World) : Calls Try.prog 53 #[.int .i64 s] w fun e w' => e = .returned (.bool (isB s)) ∧ w' = w := by
  unfold isB
  by_cases h1 : 1 ≤ s
  · by_cases h2 : s ≤ 65535
    · have HD := Lib.hid (show (decide (1 ≤ s) && decide (s ≤ 65535)) = true by simp [h1, h2])
      go_enter Try.func53, Try.ntmps53
      go_wp2
      go_ret
      exact ⟨by first | rfl | (rw [HD.out]; rfl), rfl⟩
    · have HD := Lib.hid (show (decide (1 ≤ s) && decide (s ≤ 65535)) = false by simp [h2])
      have h3 : (s ≤ 65535) = False := eq_false h2
      go_enter Try.func53, Try.ntmps53
      go_wp2
      go_ret
      exact ⟨by first | rfl | (rw [HD.out]; rfl), rfl⟩
  · have HD := Lib.hid (show (decide (1 ≤ s) && decide (s ≤ 65535)) = false by simp [h1])
    have h3 : (1 ≤ s) = False := eq_false h1
    go_enter Try.func53, Try.ntmps53
    go_wp2
    go_ret
    exact ⟨by first | rfl | (rw [HD.out]; rfl), rfl⟩
set_option maxRecDepth 100000 in
set_option maxHeartbeats 1600000 in
theorem rval_any (x : Spl) (w : World) : Calls Try.prog 54 #[x.v] w fun e w' => e = .returned (.bool x.ok) ∧ Below w.heap.size w w' := by
  obtain ⟨xw, xp, ⟨na, da, sa, ca⟩, ⟨nb, db, sb, cb⟩, ⟨nc, dc, sc, cc⟩, ⟨nd, dd, sd, cd⟩⟩ := x
  obtain ⟨va, hva⟩ : ∃ va : Value, va = .slice sa da.length ca := ⟨_, rfl⟩
  obtain ⟨vb, hvb⟩ : ∃ vb : Value, vb = .slice sb db.length cb := ⟨_, rfl⟩
  obtain ⟨vc, hvc⟩ : ∃ vc : Value, vc = .slice sc dc.length cc := ⟨_, rfl⟩
  obtain ⟨vd, hvd⟩ : ∃ vd : Value, vd = .slice sd dd.length cd := ⟨_, rfl⟩
  have hok : ∀ u : Bool, u = (isB xw && isB xp && decide (bits .and .i64 xp xw = xp) && decide (xp ≠ xw)) → Ending.returned (.bool u) = .returned (.bool (isB xw && isB xp && decide (bits .and .i64 xp xw = xp) && decide (xp ≠ xw))) := fun u h => by rw [h]
  have HOK := Lib.hid hok; clear hok
  show Calls Try.prog 54 #[.agg #[.int .i64 xw, .int .i64 xp, .bool na, .slice sa da.length ca, .bool nb, .slice sb db.length cb, .bool nc, .slice sc dc.length cc, .bool nd, .slice sd dd.length cd]] w fun e w' => e = .returned (.bool (isB xw && isB xp && decide (bits .and .i64 xp xw = xp) && decide (xp ≠ xw))) ∧ Below w.heap.size w w'
  rw [← hva, ← hvb, ← hvc, ← hvd]
  clear hva hvb hvc hvd
  have hs1 := isset_any xw
  have hs2 := isset_any xp
  obtain ⟨W1, hW1⟩ : ∃ W1, W1 = w.alloc (.cells #[.int .i64 xw, .int .i64 xp, .bool na, va, .bool nb, vb, .bool nc, vc, .bool nd, vd] 58) := ⟨_, rfl⟩
  have b1 : Below w.heap.size w W1 := by rw [hW1]; exact alloc_below _ _
  have HB1 := Lib.hid b1; clear b1
  have HW1 := Lib.hid hW1; clear hW1
  cases i1 : isB xw with
  | false =>
    rw [i1] at hs1
    have H1 := Lib.hid hs1; clear hs1 hs2
    have I1 := Lib.hid i1; clear i1
    go_enter Try.func54, Try.ntmps54
    go_wp2_with (fail)
    refine (H1.out _).mono ?_
    rintro e w2 ⟨rfl, h⟩
    have h2 := h.symm; clear h; subst h2
    go_wp2
    go_ret
    rw [← HW1.out]
    exact ⟨by rfl, HB1.out⟩
  | true =>
    rw [i1] at hs1
    have H1 := Lib.hid hs1; clear hs1
    have I1 := Lib.hid i1; clear i1
    cases i2 : isB xp with
    | false =>
      rw [i2] at hs2
      have H2 := Lib.hid hs2; clear hs2
      have I2 := Lib.hid i2; clear i2
      go_enter Try.func54, Try.ntmps54
      go_wp2_with (fail)
      refine (H1.out _).mono ?_
      rintro e w2 ⟨rfl, h⟩
      have h2 := h.symm; clear h; subst h2
      go_wp2_with (fail)
      refine (H2.out _).mono ?_
      rintro e w2 ⟨rfl, h⟩
      have h2 := h.symm; clear h; subst h2
      go_wp2
      go_ret
      rw [← HW1.out]
      exact ⟨by rfl, HB1.out⟩
    | true =>
      rw [i2] at hs2
      have H2 := Lib.hid hs2; clear hs2
      have I2 := Lib.hid i2; clear i2
      have HD := Lib.hid (show (decide (bits .and .i64 xp xw = xp) && decide (xp ≠ xw)) = (isB xw && isB xp && decide (bits .and .i64 xp xw = xp) && decide (xp ≠ xw)) by rw [I1.out, I2.out]; simp)
      by_cases i3 : bits .and .i64 xp xw = xp
      · have J3 := Lib.hid i3
        by_cases i4 : xp = xw
        · have J4 := Lib.hid i4
          have i5 : (xp != xw) = false := by rw [bne_eq_false_iff_eq]; exact i4
          clear i4
          have i6 : (bits .and .i64 xp xw == xp) = true := by rw [i3]; simp
          clear i3
          go_enter Try.func54, Try.ntmps54
          go_wp2_with (fail)
          refine (H1.out _).mono ?_
          rintro e w2 ⟨rfl, h⟩
          have h2 := h.symm; clear h; subst h2
          go_wp2_with (fail)
          refine (H2.out _).mono ?_
          rintro e w2 ⟨rfl, h⟩
          have h2 := h.symm; clear h; subst h2
          have i4 : (xp = xw) = True := eq_true J4.out
          have i3 := J3.out
          go_wp2
          go_ret
          rw [← HW1.out]
          exact ⟨by rw [decide_eq_true J3.out, decide_eq_false (fun h => h J4.out)]; rfl, HB1.out⟩
        · have J4 := Lib.hid i4
          have i5 : (xp != xw) = true := by rw [bne_iff_ne]; exact i4
          have i7 : (xp = xw) = False := eq_false i4
          clear i4
          have i6 : (bits .and .i64 xp xw == xp) = true := by rw [i3]; simp
          clear i3
          go_enter Try.func54, Try.ntmps54
          go_wp2_with (fail)
          refine (H1.out _).mono ?_
          rintro e w2 ⟨rfl, h⟩
          have h2 := h.symm; clear h; subst h2
          go_wp2_with (fail)
          refine (H2.out _).mono ?_
          rintro e w2 ⟨rfl, h⟩
          have h2 := h.symm; clear h; subst h2
          have i3 := J3.out
          go_wp2
          go_ret
          rw [← HW1.out]
          exact ⟨by rw [decide_eq_true J3.out, decide_eq_true J4.out]; rfl, HB1.out⟩
      · have J3 := Lib.hid i3
        have i6 : (bits .and .i64 xp xw == xp) = false := by rw [beq_eq_false_iff_ne]; exact i3
        have i7 : (bits .and .i64 xp xw = xp) = False := eq_false i3
        clear i3
        go_enter Try.func54, Try.ntmps54
        go_wp2_with (fail)
        refine (H1.out _).mono ?_
        rintro e w2 ⟨rfl, h⟩
        have h2 := h.symm; clear h; subst h2
        go_wp2_with (fail)
        refine (H2.out _).mono ?_
        rintro e w2 ⟨rfl, h⟩
        have h2 := h.symm; clear h; subst h2
        go_wp2
        go_ret
        rw [← HW1.out]
        exact ⟨by rw [decide_eq_false J3.out]; rfl, HB1.out⟩
end Go.Proofs.Ytnkinjilnccmfaa
/- order: the reference's Error, Has. -/
namespace Go.Order
open Go.RowKit Go.Own Go.Proofs.Ytnkinjilnccmfaa
theorem all_take {α : Type} {f : α → Bool} {l : List α} {i : Nat} (h : i < l.length) : (l.take (i + 1)).all f = ((l.take i).all f && f l[i]) := by
  rw [List.take_succ_eq_append_getElem h, List.all_append]; simp
theorem all_false {α : Type} {f : α → Bool} {l : List α} {i : Nat} (h : i < l.length) (e : f l[i] = false) : l.all f = false := by
  rw [List.all_eq_false]
  exact ⟨l[i], List.getElem_mem h, by rw [e]; exact Bool.false_ne_true⟩
def hasB (l : List Int) (s : Int) : Bool := l.contains s
end Go.Order
namespace Go.Proofs.Ytnkinjilnccmfaa
open Go.RowKit Go.Own Go.BigFrame Go.Big Go.Order
set_option maxRecDepth 100000 in
set_option maxHeartbeats 1600000 in
theorem rerror_any (whole : Int) (may : List Spl) (st : List Int) (s t : Option Addr) (ca cb : Nat) (w : World) (hl : Lst w (.slice s may.length ca) may) (hm : Sz w (.slice t st.length cb) st.length (intsI st)) :
    Calls Try.prog 22 #[.int .i64 whole, .slice s may.length ca, .slice t st.length cb] w fun e w' => e = .returned (.int .i64 (errV whole may st)) ∧ Below w.heap.size w w' := by
  have HL := Lib.hid hl; clear hl
  have HM := Lib.hid hm; clear hm
  by_cases h1 : 4096 < may.length
  · have e : errV whole may st = 4 := by unfold errV; rw [if_pos (.inl h1)]
    have E := Lib.hid e; clear e
    have h1' : (4096 : Int) < may.length := by omega
    go_enter Try.func22, Try.ntmps22
    go_wp2
    go_ret
    exact ⟨by rw [E.out]; rfl, Below.refl _ _⟩
  · by_cases h2 : 4096 < st.length
    · have e : errV whole may st = 4 := by unfold errV; rw [if_pos (.inr h2)]
      have E := Lib.hid e; clear e
      have h1' : ((4096 : Int) < may.length) = False := eq_false (by omega)
      have h2' : (4096 : Int) < st.length := by omega
      go_enter Try.func22, Try.ntmps22
      go_wp2
      go_ret
      exact ⟨by rw [E.out]; rfl, Below.refl _ _⟩
    · have h1' : ((4096 : Int) < may.length) = False := eq_false (by omega)
      have h2' : ((4096 : Int) < st.length) = False := eq_false (by omega)
      have e : errV whole may st = if isB whole && st.all isB && may.all Spl.ok then 0 else 1 := by unfold errV; rw [if_neg (by omega)]
      have hs := isset_any whole w
      cases hw : isB whole with
      | false =>
        rw [hw] at e hs
        have E := Lib.hid e; clear e
        have HS := Lib.hid hs; clear hs hw
        go_enter Try.func22, Try.ntmps22
        go_wp2_with (fail)
        refine HS.out.mono ?_
        rintro e w2 ⟨rfl, h⟩
        have h2 := h.symm; clear h; subst h2
        go_wp2
        go_ret
        exact ⟨by rw [E.out]; rfl, Below.refl _ _⟩
      | true =>
        rw [hw, Bool.true_and] at e
        rw [hw] at hs
        have E := Lib.hid e; clear e
        have HS := Lib.hid hs; clear hs hw
        go_enter Try.func22, Try.ntmps22
        go_wp2_with (fail)
        refine HS.out.mono ?_
        rintro e w2 ⟨rfl, h⟩
        have h3 := h.symm; clear h; subst h3
        go_wp2
        clear h1' h2'
        go_loopw [7] (fun v wr => ∃ i : Nat, i ≤ st.length ∧ v = .int .i64 i ∧ (st.take i).all isB = true ∧ wr = w) (fun v _ => st.length - (vInt v).toNat)
        case atStart => exact ⟨0, Nat.zero_le _, rfl, rfl, rfl⟩
        case round =>
          obtain ⟨i, hi, rfl, ht, rfl⟩ := hrel
          have HT := Lib.hid ht; clear ht
          by_cases hil : i < st.length
          · have hil' : (i : Int) < st.length := by omega
            obtain ⟨g, o, rfl, _, _, hC, hg⟩ := sl_at (HM.out (by omega)) (by omega)
            have hx0 := all_take (f := isB) hil
            have hx1 := fun he : isB st[i] = false => all_false hil he
            obtain ⟨x, hx⟩ : ∃ x, x = st[i] := ⟨_, rfl⟩
            have cx : wr.cell? ⟨g, o + i, none⟩ = some (.int .i64 x) := by rw [hx]; exact hC i _ (intsI_at hil)
            rw [← hx] at hx0 hx1
            rw [HT.out, Bool.true_and] at hx0
            have hs := isset_any x wr
            obtain ⟨b, hb⟩ : ∃ b, b = isB x := ⟨_, rfl⟩
            rw [← hb] at hx0 hx1 hs
            have HS2 := Lib.hid hs; clear hs
            have HX0 := Lib.hid hx0; clear hx0
            have HX1 := Lib.hid hx1; clear hx1 hx hb hC
            go_wp2_with (fail)
            refine HS2.out.mono ?_
            rintro e w2 ⟨rfl, h⟩
            have h3 := h.symm; clear h; subst h3
            cases b with
            | false =>
              have HF := Lib.hid (HX1.out rfl)
              go_wp2
              go_ret
              exact ⟨by rw [E.out, HF.out]; rfl, Below.refl _ _⟩
            | true =>
              go_wp2
              go_roundw
              case rel => exact ⟨i + 1, by omega, by go_num, HX0.out, trivial⟩
              case measure => simp [vInt]; omega
          · have hil' : ((i : Int) < st.length) = False := eq_false (by omega)
            have hall : st.all isB = true := by have := HT.out; rwa [List.take_of_length_le (by omega)] at this
            have HALL := Lib.hid hall; clear hall
            go_wp2
            obtain ⟨wo, rfl⟩ : ∃ wo : World, wo = wr := ⟨_, rfl⟩
            go_loopw [8] (fun v wi => ∃ k : Nat, k ≤ may.length ∧ v = .int .i64 k ∧ (may.take k).all Spl.ok = true ∧ Below wo.heap.size wo wi) (fun v _ => may.length - (vInt v).toNat)
            case atStart => exact ⟨0, Nat.zero_le _, rfl, rfl, Below.refl _ _⟩
            case round =>
              obtain ⟨k, hk, rfl, hkt, hbr⟩ := hrel
              have HKT := Lib.hid hkt; clear hkt
              by_cases hkl : k < may.length
              · have hkl' : (k : Int) < may.length := by omega
                obtain ⟨g, o, rfl, _, _, _, hC, hg⟩ := HL.out.at (by omega)
                have cA := (Lst.cells hC hkl).below hbr hg
                have hx0 := all_take (f := Spl.ok) hkl
                have hx1 := fun he : Spl.ok may[k] = false => all_false hkl he
                obtain ⟨x, hx⟩ : ∃ x, x = may[k] := ⟨_, rfl⟩
                rw [← hx] at hx0 hx1 cA
                rw [HKT.out, Bool.true_and] at hx0
                have hs : Calls Try.prog 54 #[.agg x.cells.toArray] wr fun e w' => e = .returned (.bool x.ok) ∧ Below wr.heap.size wr w' := rval_any x wr
                have hi10 := infoS' x
                obtain ⟨b, hb⟩ : ∃ b, b = Spl.ok x := ⟨_, rfl⟩
                obtain ⟨vs, hvs⟩ : ∃ vs, vs = x.cells := ⟨_, rfl⟩
                rw [← hb] at hx0 hx1 hs
                rw [← hvs] at hs cA hi10
                have HS2 := Lib.hid hs; clear hs
                have CA := Lib.hid cA; clear cA
                have HX0 := Lib.hid hx0; clear hx0
                have HX1 := Lib.hid hx1; clear hx1 hx hb hC hvs
                go_wp2_with (refine wpList_load_agg (ty := 58) vs CA.out rfl rfl rfl aggS hi10 ?_)
                clear hi10
                go_wp2_with (fail)
                refine HS2.out.mono ?_
                rintro e w2 ⟨rfl, b2⟩
                have b2' := hbr.trans (b2.mono hbr.size)
                cases b with
                | false =>
                  have HF := Lib.hid (HX1.out rfl)
                  go_wp2
                  go_ret
                  exact ⟨by rw [E.out, HF.out, Bool.and_false]; rfl, b2'⟩
                | true =>
                  have HB2 := Lib.hid b2'; clear b2' b2
                  go_wp2
                  go_roundw
                  case rel => exact ⟨k + 1, by omega, by go_num, HX0.out, HB2.out⟩
                  case measure => simp [vInt]; omega
              · have hkl' : ((k : Int) < may.length) = False := eq_false (by omega)
                have hall2 : may.all Spl.ok = true := by have := HKT.out; rwa [List.take_of_length_le (by omega)] at this
                have HALL2 := Lib.hid hall2; clear hall2
                go_wp2
                go_ret
                exact ⟨by rw [E.out, HALL.out, HALL2.out]; rfl, hbr⟩
set_option maxRecDepth 100000 in
theorem rhas_any (l : List Int) (x : Int) (s : Option Addr) (ca : Nat) (w : World) (hl : Sz w (.slice s l.length ca) l.length (intsI l)) (hn : l.length < 4611686018427387904) :
    Calls Try.prog 52 #[.slice s l.length ca, .int .i64 x] w fun e w' => e = .returned (.bool (hasB l x)) ∧ w' = w := by
  have hn2 : (l.length : Int) < 4611686018427387904 := by omega
  have HL := Lib.hid hl; clear hl
  go_enter Try.func52, Try.ntmps52
  go_wp2
  go_loopw [5] (fun v wr => ∃ i : Nat, i ≤ l.length ∧ v = .int .i64 i ∧ (∀ j (h : j < l.length), j < i → l[j] ≠ x) ∧ wr = w) (fun v _ => l.length - (vInt v).toNat)
  case atStart => exact ⟨0, Nat.zero_le _, rfl, fun j _ h => by omega, rfl⟩
  case round =>
    obtain ⟨i, hi, rfl, ht, rfl⟩ := hrel
    have HT := Lib.hid ht; clear ht
    by_cases hil : i < l.length
    · have hil' : (i : Int) < l.length := by omega
      obtain ⟨g, o, rfl, _, _, hC, hg⟩ := sl_at (HL.out (by omega)) (by omega)
      have hst : l[i] ≠ x → ∀ j (h : j < l.length), j < i + 1 → l[j] ≠ x := fun he j h hj => by
        by_cases e : j = i
        · subst e; exact he
        · exact HT.out j h (by omega)
      have hin : l[i] = x → hasB l x = true := fun he => by unfold hasB; rw [List.contains_iff_mem, ← he]; exact List.getElem_mem hil
      obtain ⟨y, hy⟩ : ∃ y, y = l[i] := ⟨_, rfl⟩
      have cx : wr.cell? ⟨g, o + i, none⟩ = some (.int .i64 y) := by rw [hy]; exact hC i _ (intsI_at hil)
      rw [← hy] at hst hin
      have HST := Lib.hid hst; clear hst
      have HIN := Lib.hid hin; clear hin hy hC
      by_cases hyx : y = x
      · have HI := Lib.hid (HIN.out hyx)
        have h1 : (y == x) = true := by rw [hyx]; simp
        have h2 : (y = x) = True := eq_true hyx
        clear hyx
        go_wp2
        go_ret
        exact ⟨by rw [HI.out]; rfl, rfl⟩
      · have HI := Lib.hid (HST.out hyx)
        have h1 : (y == x) = false := by rw [beq_eq_false_iff_ne]; exact hyx
        have h2 : (y = x) = False := eq_false hyx
        clear hyx
        go_wp2
        go_roundw
        case rel => exact ⟨i + 1, by omega, by go_num, HI.out, trivial⟩
        case measure => simp [vInt]; omega
    · have hil' : ((i : Int) < l.length) = False := eq_false (by omega)
      have he : hasB l x = false := by
        unfold hasB
        cases hc : l.contains x with
        | false => rfl
        | true =>
          rw [List.contains_iff_mem] at hc
          obtain ⟨j, hj, hjx⟩ := List.getElem_of_mem hc
          exact absurd hjx (HT.out j hj (by omega))
      have HE := Lib.hid he; clear he
      go_wp2
      go_ret
      exact ⟨by rw [HE.out]; rfl, rfl⟩
end Go.Proofs.Ytnkinjilnccmfaa
/- order: the program's is, fits: what is bad. -/
namespace Go.Order
open Go.RowKit Go.Own Go.Proofs.Ytnkinjilnccmfaa Go.Ib
theorem ok_prog (x : Spl) : x.ok = (isB x.w && isB x.p && isB x.rest && decide (bits .andNot .i64 x.p x.w = 0)) := by
  have key : ∀ w p : Nat, 1 ≤ w → w < 65536 → 1 ≤ p → p < 65536 → (bits .andNot .i64 (p : Int) (w : Int) = 0 ↔ Sb p w) := fun w p h1 h2 h3 h4 => by
    rw [b_andNot p w (by omega) (by omega)]
    constructor
    · intro h k hk
      have h5 : diff p w = 0 := by omega
      have h6 := congrArg (fun x => x.testBit k) h5
      simp only [diff_bit p w k (by omega), Nat.zero_testBit, hk, Bool.true_and] at h6
      simpa using h6
    · intro h
      have : diff p w = 0 := by
        apply Nat.eq_of_testBit_eq
        intro k
        rw [diff_bit p w k (by omega), Nat.zero_testBit]
        cases hk : p.testBit k with
        | false => rfl
        | true => rw [h k hk]; rfl
      rw [this]; rfl
  cases h1 : isB x.w with
  | false => unfold Spl.ok; rw [h1]; rfl
  | true =>
    cases h2 : isB x.p with
    | false => unfold Spl.ok; rw [h1, h2]; rfl
    | true =>
      obtain ⟨w, hw, w1, w2⟩ := isB_nat h1
      obtain ⟨p, hp, p1, p2⟩ := isB_nat h2
      unfold Spl.ok Spl.rest
      rw [h1, h2, hw, hp]
      simp only [Bool.true_and]
      by_cases hs : Sb p w
      · have := hs.le
        rw [decide_eq_true ((and_sb p2 w2).2 hs), decide_eq_true ((key w p w1 w2 p1 p2).2 hs), Bool.true_and, Bool.and_true, rsti_nat w2 p2 hs]
        unfold isB
        by_cases e : p = w
        · subst e; simp
        · rw [decide_eq_true (show (p : Int) ≠ w by omega)]; simp; omega
      · rw [decide_eq_false (fun h => hs ((and_sb p2 w2).1 h)), decide_eq_false (fun h => hs ((key w p w1 w2 p1 p2).1 h))]; simp
end Go.Order
namespace Go.Proofs.Ytnkinjilnccmfaa
open Go.RowKit Go.Own Go.BigFrame Go.Big Go.Order
theorem is_any (s : Int) (w : World) : Calls Try.prog 62 #[.int .i64 s] w fun e w' => e = .returned (.bool (isB s)) ∧ w' = w := by
  unfold isB
  by_cases h1 : 1 ≤ s
  · by_cases h2 : s ≤ 65535
    · have HD := Lib.hid (show (decide (1 ≤ s) && decide (s ≤ 65535)) = true by simp [h1, h2])
      go_enter Try.func62, Try.ntmps62
      go_wp2
      go_ret
      exact ⟨by first | rfl | (rw [HD.out]; rfl), rfl⟩
    · have HD := Lib.hid (show (decide (1 ≤ s) && decide (s ≤ 65535)) = false by simp [h2])
      have h3 : (s ≤ 65535) = False := eq_false h2
      go_enter Try.func62, Try.ntmps62
      go_wp2
      go_ret
      exact ⟨by first | rfl | (rw [HD.out]; rfl), rfl⟩
  · have HD := Lib.hid (show (decide (1 ≤ s) && decide (s ≤ 65535)) = false by simp [h1])
    have h3 : (1 ≤ s) = False := eq_false h1
    go_enter Try.func62, Try.ntmps62
    go_wp2
    go_ret
    exact ⟨by first | rfl | (rw [HD.out]; rfl), rfl⟩
theorem no_any (s : Int) (w : World) : Calls Try.prog 61 #[.int .i64 s] w fun e w' => e = .returned (.bool (!isB s)) ∧ w' = w := by
  have h := is_any s w
  obtain ⟨b, hb⟩ : ∃ b, b = isB s := ⟨_, rfl⟩
  rw [← hb] at h ⊢
  have H := Lib.hid h; clear h hb
  go_enter Try.func61, Try.ntmps61
  go_wp2_with (fail)
  refine H.out.mono ?_
  rintro e w2 ⟨rfl, h⟩
  have h2 := h.symm; clear h; subst h2
  cases b with
  | false => go_wp2; go_ret; exact ⟨rfl, rfl⟩
  | true => go_wp2; go_ret; exact ⟨rfl, rfl⟩
attribute [local irreducible] SqC.SqW
set_option maxRecDepth 100000 in
set_option maxHeartbeats 6400000 in
theorem bad_any (x : Spl) (gn : Nat) (w : World) (hgn : w.cell? ⟨gn, 0, none⟩ = some (.func (.func 61) #[] #[])) :
    Calls Try.prog 63 #[x.v, .pointer (some ⟨gn, 0, none⟩)] w fun e w' => e = .returned (.bool (!x.ok)) ∧ Below w.heap.size w w' := by
  have hr := rest_any x
  have hok := ok_prog x
  obtain ⟨R, hR⟩ : ∃ R, R = x.rest := ⟨_, rfl⟩
  rw [← hR] at hr hok
  rw [hok]
  clear hok hR
  obtain ⟨xw, xp, ⟨na, da, sa, ca⟩, ⟨nb, db, sb, cb⟩, ⟨nc, dc, sc, cc⟩, ⟨nd, dd, sd, cd⟩⟩ := x
  obtain ⟨va, hva⟩ : ∃ va : Value, va = .slice sa da.length ca := ⟨_, rfl⟩
  obtain ⟨vb, hvb⟩ : ∃ vb : Value, vb = .slice sb db.length cb := ⟨_, rfl⟩
  obtain ⟨vc, hvc⟩ : ∃ vc : Value, vc = .slice sc dc.length cc := ⟨_, rfl⟩
  obtain ⟨vd, hvd⟩ : ∃ vd : Value, vd = .slice sd dd.length cd := ⟨_, rfl⟩
  have hr' : ∀ U : World, Calls Try.prog 37 #[.agg #[.int .i64 xw, .int .i64 xp, .bool na, va, .bool nb, vb, .bool nc, vc, .bool nd, vd]] U fun e w' => e = .returned (.int .i64 R) ∧ Below U.heap.size U w' := fun U => by rw [hva, hvb, hvc, hvd]; exact hr U
  show Calls Try.prog 63 #[.agg #[.int .i64 xw, .int .i64 xp, .bool na, .slice sa da.length ca, .bool nb, .slice sb db.length cb, .bool nc, .slice sc dc.length cc, .bool nd, .slice sd dd.length cd], .pointer (some ⟨gn, 0, none⟩)] w fun e w' => e = .returned (.bool (!(isB xw && isB xp && isB R && decide (bits .andNot .i64 xp xw = 0)))) ∧ Below w.heap.size w w'
  rw [← hva, ← hvb, ← hvc, ← hvd]
  clear hva hvb hvc hvd hr
  have n1 := no_any xw
  have n2 := no_any xp
  have n3 := no_any R
  obtain ⟨b1, hb1⟩ : ∃ b, b = !isB xw := ⟨_, rfl⟩
  obtain ⟨b2, hb2⟩ : ∃ b, b = !isB xp := ⟨_, rfl⟩
  obtain ⟨b3, hb3⟩ : ∃ b, b = !isB R := ⟨_, rfl⟩
  rw [← hb1] at n1
  rw [← hb2] at n2
  rw [← hb3] at n3
  rw [show isB xw = !b1 by rw [hb1]; simp, show isB xp = !b2 by rw [hb2]; simp, show isB R = !b3 by rw [hb3]; simp]
  clear hb1 hb2 hb3
  obtain ⟨W1, hW1⟩ : ∃ W1, W1 = w.alloc (.cells #[.int .i64 xw, .int .i64 xp, .bool na, va, .bool nb, vb, .bool nc, vc, .bool nd, vd] 58) := ⟨_, rfl⟩
  have hB : Blk W1 w.heap.size [.int .i64 xw, .int .i64 xp, .bool na, va, .bool nb, vb, .bool nc, vc, .bool nd, vd] 58 := by rw [hW1]; exact Blk.new w #[.int .i64 xw, .int .i64 xp, .bool na, va, .bool nb, vb, .bool nc, vc, .bool nd, vd] 58
  have bw1 : Below w.heap.size w W1 := by rw [hW1]; exact alloc_below _ _
  have hx : ∀ U, Below W1.heap.size W1 U → U.cell? ⟨w.heap.size, 0, none⟩ = some (.int .i64 xw) := fun U hU => (hB.below hU hB.lt).cell rfl
  have hy : ∀ U, Below W1.heap.size W1 U → U.cell? ⟨w.heap.size, 1, none⟩ = some (.int .i64 xp) := fun U hU => (hB.below hU hB.lt).cell rfl
  have hgl : gn < w.heap.size := World.block_lt_of_cell? _ _ hgn
  have hf : ∀ U, Below W1.heap.size W1 U → U.cell? ⟨gn, 0, none⟩ = some (.func (.func 61) #[] #[]) := fun U hU => by
    rw [← hgn]; exact (bw1.trans (hU.mono bw1.size)).cell (p := ⟨gn, 0, none⟩) hgl
  have hl : ∀ U, Below W1.heap.size W1 U → (loadVar 58 ⟨w.heap.size, 0, none⟩).run Try.prog U = .ok (.agg #[.int .i64 xw, .int .i64 xp, .bool na, va, .bool nb, vb, .bool nc, vc, .bool nd, vd]) U := fun U hU =>
    run_load_agg (P := Try.prog) (ty := 58) (hB.below hU hB.lt).cells0 aggS infoS
  have HX := Lib.hid hx; clear hx
  have HY := Lib.hid hy; clear hy
  have HF := Lib.hid hf; clear hf hgn
  have HLD := Lib.hid hl; clear hl hB
  have HR := Lib.hid hr'; clear hr'
  have N1 := Lib.hid n1; clear n1
  have N2 := Lib.hid n2; clear n2
  have N3 := Lib.hid n3; clear n3
  have HW1 := Lib.hid hW1; clear hW1
  have HB1 := Lib.hid bw1; clear bw1
  go_enter Try.func63, Try.ntmps63
  go_step
  go_wp2
  rw [← HW1.out]
  have eX : Below W1.heap.size W1 W1.drew := (Below.refl _ _).drew
  haveI : Nonempty (SqC.Come fun U : World => Below W1.heap.size W1 U) := ⟨⟨_, eX⟩⟩
  refine SqC.wp_region_sqc 25 [3, 8, 13, 14] (fun U : World => Below W1.heap.size W1 U) (by kernel_rfl) (by kernel_rfl) (by kernel_rfl) eX ?_
  obtain ⟨wd, hwd⟩ : ∃ wd : World, wd = W1.drew := ⟨_, rfl⟩
  rw [← hwd] at eX ⊢
  clear hwd
  refine SqC.value (.func (.func 61) #[] #[]) rfl rfl (by intro U hU; have cx := HF.out U hU; go_simp) ?_
  simp only [Act.put, List.setIfInBounds_toArray, List.set_cons_zero, List.set_cons_succ]
  refine SqC.quiet rfl rfl ?_; go_big_quiet_step (fail); refine wpQuiet_nil ?_
  refine SqC.value (.int .i64 xw) rfl rfl (by intro U hU; have cx := HX.out U hU; go_simp) ?_
  simp only [Act.put, List.setIfInBounds_toArray, List.set_cons_zero, List.set_cons_succ]
  refine SqC.effect rfl rfl ?_
  refine yields_closure (f := 61) (lb := #[]) rfl (by kernel_rfl) rfl rfl ((N1.out  wd).mono ?_)
  rintro e w9 ⟨rfl, h5⟩
  have h6 := h5.symm
  clear h5
  subst h6
  refine ⟨_, rfl, fun _ => eX, ?_⟩
  simp only [Act.put, List.setIfInBounds_toArray, List.set_cons_zero, List.set_cons_succ]
  cases b1 with
  | true =>
    refine SqC.quiet rfl rfl ?_; go_big_quiet_step (fail); refine wpQuiet_nil ?_
    refine SqC.skip rfl ?_
    simp only [Act.put, List.setIfInBounds_toArray, List.set_cons_zero, List.set_cons_succ]
    refine SqC.skip rfl ?_
    simp only [Act.put, List.setIfInBounds_toArray, List.set_cons_zero, List.set_cons_succ]
    refine SqC.skip rfl ?_
    simp only [Act.put, List.setIfInBounds_toArray, List.set_cons_zero, List.set_cons_succ]
    refine SqC.skip rfl ?_
    simp only [Act.put, List.setIfInBounds_toArray, List.set_cons_zero, List.set_cons_succ]
    refine SqC.quiet rfl rfl ?_; go_big_quiet_step (fail); refine wpQuiet_nil ?_
    refine SqC.quiet rfl rfl ?_; go_big_quiet_step (fail); refine wpQuiet_nil ?_
    refine SqC.skip rfl ?_
    simp only [Act.put, List.setIfInBounds_toArray, List.set_cons_zero, List.set_cons_succ]
    refine SqC.skip rfl ?_
    simp only [Act.put, List.setIfInBounds_toArray, List.set_cons_zero, List.set_cons_succ]
    refine SqC.skip rfl ?_
    simp only [Act.put, List.setIfInBounds_toArray, List.set_cons_zero, List.set_cons_succ]
    refine SqC.skip rfl ?_
    simp only [Act.put, List.setIfInBounds_toArray, List.set_cons_zero, List.set_cons_succ]
    refine SqC.quiet rfl rfl ?_; go_big_quiet_step (fail); refine wpQuiet_nil ?_
    refine SqC.quiet rfl rfl ?_; go_big_quiet_step (fail); refine wpQuiet_nil ?_
    refine SqC.skip rfl ?_
    simp only [Act.put, List.setIfInBounds_toArray, List.set_cons_zero, List.set_cons_succ]
    refine SqC.skip rfl ?_
    simp only [Act.put, List.setIfInBounds_toArray, List.set_cons_zero, List.set_cons_succ]
    refine SqC.skip rfl ?_
    simp only [Act.put, List.setIfInBounds_toArray, List.set_cons_zero, List.set_cons_succ]
    refine SqC.skip rfl ?_
    simp only [Act.put, List.setIfInBounds_toArray, List.set_cons_zero, List.set_cons_succ]
    refine SqC.skip rfl ?_
    simp only [Act.put, List.setIfInBounds_toArray, List.set_cons_zero, List.set_cons_succ]
    refine SqC.skip rfl ?_
    simp only [Act.put, List.setIfInBounds_toArray, List.set_cons_zero, List.set_cons_succ]
    refine SqC.quiet rfl rfl ?_; go_big_quiet_step (fail); refine wpQuiet_nil ?_
    refine SqC.quiet rfl rfl ?_; go_big_quiet_step (fail); refine wpQuiet_nil ?_
    refine SqC.nil ?_
    go_wp2
    go_ret
    exact ⟨rfl, HB1.out.trans (eX.mono HB1.out.size)⟩
  | false =>
    refine SqC.quiet rfl rfl ?_; go_big_quiet_step (fail); refine wpQuiet_nil ?_
    refine SqC.value (.func (.func 61) #[] #[]) rfl rfl (by intro U hU; have cx := HF.out U hU; go_simp) ?_
    simp only [Act.put, List.setIfInBounds_toArray, List.set_cons_zero, List.set_cons_succ]
    refine SqC.quiet rfl rfl ?_; go_big_quiet_step (fail); refine wpQuiet_nil ?_
    refine SqC.value (.int .i64 xp) rfl rfl (by intro U hU; have cx := HY.out U hU; go_simp) ?_
    simp only [Act.put, List.setIfInBounds_toArray, List.set_cons_zero, List.set_cons_succ]
    refine SqC.effect rfl rfl ?_
    refine yields_closure (f := 61) (lb := #[]) rfl (by kernel_rfl) rfl rfl ((N2.out  wd).mono ?_)
    rintro e w9 ⟨rfl, h5⟩
    have h6 := h5.symm
    clear h5
    subst h6
    refine ⟨_, rfl, fun _ => eX, ?_⟩
    simp only [Act.put, List.setIfInBounds_toArray, List.set_cons_zero, List.set_cons_succ]
    cases b2 with
    | true =>
      refine SqC.quiet rfl rfl ?_; go_big_quiet_step (fail); refine wpQuiet_nil ?_
      refine SqC.quiet rfl rfl ?_; go_big_quiet_step (fail); refine wpQuiet_nil ?_
      refine SqC.skip rfl ?_
      simp only [Act.put, List.setIfInBounds_toArray, List.set_cons_zero, List.set_cons_succ]
      refine SqC.skip rfl ?_
      simp only [Act.put, List.setIfInBounds_toArray, List.set_cons_zero, List.set_cons_succ]
      refine SqC.skip rfl ?_
      simp only [Act.put, List.setIfInBounds_toArray, List.set_cons_zero, List.set_cons_succ]
      refine SqC.skip rfl ?_
      simp only [Act.put, List.setIfInBounds_toArray, List.set_cons_zero, List.set_cons_succ]
      refine SqC.quiet rfl rfl ?_; go_big_quiet_step (fail); refine wpQuiet_nil ?_
      refine SqC.quiet rfl rfl ?_; go_big_quiet_step (fail); refine wpQuiet_nil ?_
      refine SqC.skip rfl ?_
      simp only [Act.put, List.setIfInBounds_toArray, List.set_cons_zero, List.set_cons_succ]
      refine SqC.skip rfl ?_
      simp only [Act.put, List.setIfInBounds_toArray, List.set_cons_zero, List.set_cons_succ]
      refine SqC.skip rfl ?_
      simp only [Act.put, List.setIfInBounds_toArray, List.set_cons_zero, List.set_cons_succ]
      refine SqC.skip rfl ?_
      simp only [Act.put, List.setIfInBounds_toArray, List.set_cons_zero, List.set_cons_succ]
      refine SqC.skip rfl ?_
      simp only [Act.put, List.setIfInBounds_toArray, List.set_cons_zero, List.set_cons_succ]
      refine SqC.skip rfl ?_
      simp only [Act.put, List.setIfInBounds_toArray, List.set_cons_zero, List.set_cons_succ]
      refine SqC.quiet rfl rfl ?_; go_big_quiet_step (fail); refine wpQuiet_nil ?_
      refine SqC.quiet rfl rfl ?_; go_big_quiet_step (fail); refine wpQuiet_nil ?_
      refine SqC.nil ?_
      go_wp2
      go_ret
      exact ⟨rfl, HB1.out.trans (eX.mono HB1.out.size)⟩
    | false =>
      refine SqC.quiet rfl rfl ?_; go_big_quiet_step (fail); refine wpQuiet_nil ?_
      refine SqC.quiet rfl rfl ?_; go_big_quiet_step (fail); refine wpQuiet_nil ?_
      refine SqC.value (.func (.func 61) #[] #[]) rfl rfl (by intro U hU; have cx := HF.out U hU; go_simp) ?_
      simp only [Act.put, List.setIfInBounds_toArray, List.set_cons_zero, List.set_cons_succ]
      refine SqC.value (.agg #[.int .i64 xw, .int .i64 xp, .bool na, va, .bool nb, vb, .bool nc, vc, .bool nd, vd]) rfl rfl (fun U hU => load_agg_exec rfl rfl (HLD.out U hU)) ?_
      simp only [Act.put, List.setIfInBounds_toArray, List.set_cons_zero, List.set_cons_succ]
      refine SqC.effect rfl rfl ?_
      refine yields_call rfl (by kernel_rfl) rfl rfl ((HR.out wd).mono ?_)
      rintro e w5 ⟨rfl, b5⟩
      have eX5 : Below W1.heap.size W1 w5 := eX.trans (b5.mono eX.size)
      refine ⟨_, rfl, fun _ => eX5, ?_⟩
      simp only [Act.put, List.setIfInBounds_toArray, List.set_cons_zero, List.set_cons_succ]
      clear b5 eX
      have eX := eX5
      clear eX5
      refine SqC.effect rfl rfl ?_
      refine yields_closure (f := 61) (lb := #[]) rfl (by kernel_rfl) rfl rfl ((N3.out  w5).mono ?_)
      rintro e w9 ⟨rfl, h5⟩
      have h6 := h5.symm
      clear h5
      subst h6
      refine ⟨_, rfl, fun _ => eX, ?_⟩
      simp only [Act.put, List.setIfInBounds_toArray, List.set_cons_zero, List.set_cons_succ]
      cases b3 with
      | true =>
        refine SqC.quiet rfl rfl ?_; go_big_quiet_step (fail); refine wpQuiet_nil ?_
        refine SqC.quiet rfl rfl ?_; go_big_quiet_step (fail); refine wpQuiet_nil ?_
        refine SqC.skip rfl ?_
        simp only [Act.put, List.setIfInBounds_toArray, List.set_cons_zero, List.set_cons_succ]
        refine SqC.skip rfl ?_
        simp only [Act.put, List.setIfInBounds_toArray, List.set_cons_zero, List.set_cons_succ]
        refine SqC.skip rfl ?_
        simp only [Act.put, List.setIfInBounds_toArray, List.set_cons_zero, List.set_cons_succ]
        refine SqC.skip rfl ?_
        simp only [Act.put, List.setIfInBounds_toArray, List.set_cons_zero, List.set_cons_succ]
        refine SqC.skip rfl ?_
        simp only [Act.put, List.setIfInBounds_toArray, List.set_cons_zero, List.set_cons_succ]
        refine SqC.skip rfl ?_
        simp only [Act.put, List.setIfInBounds_toArray, List.set_cons_zero, List.set_cons_succ]
        refine SqC.quiet rfl rfl ?_; go_big_quiet_step (fail); refine wpQuiet_nil ?_
        refine SqC.quiet rfl rfl ?_; go_big_quiet_step (fail); refine wpQuiet_nil ?_
        refine SqC.nil ?_
        go_wp2
        go_ret
        exact ⟨rfl, HB1.out.trans (eX.mono HB1.out.size)⟩
      | false =>
        by_cases h0 : bits .andNot .i64 xp xw = 0
        · have h1 : (bits .andNot .i64 xp xw != 0) = false := by rw [bne_eq_false_iff_eq]; exact h0
          have HZ := Lib.hid (show decide (bits .andNot .i64 xp xw = 0) = true by simp [h0])
          refine SqC.quiet rfl rfl ?_; go_big_quiet_step (fail); refine wpQuiet_nil ?_
          refine SqC.quiet rfl rfl ?_; go_big_quiet_step (fail); refine wpQuiet_nil ?_
          refine SqC.quiet rfl rfl ?_; go_big_quiet_step (fail); refine wpQuiet_nil ?_
          refine SqC.value (.int .i64 xp) rfl rfl (by intro U hU; have cx := HY.out U hU; go_simp) ?_
          simp only [Act.put, List.setIfInBounds_toArray, List.set_cons_zero, List.set_cons_succ]
          refine SqC.quiet rfl rfl ?_; go_big_quiet_step (fail); refine wpQuiet_nil ?_
          refine SqC.value (.int .i64 xw) rfl rfl (by intro U hU; have cx := HX.out U hU; go_simp) ?_
          simp only [Act.put, List.setIfInBounds_toArray, List.set_cons_zero, List.set_cons_succ]
          refine SqC.quiet rfl rfl ?_; go_big_quiet_step (fail); refine wpQuiet_nil ?_
          refine SqC.quiet rfl rfl ?_; go_big_quiet_step (fail); refine wpQuiet_nil ?_
          refine SqC.quiet rfl rfl ?_; go_big_quiet_step (fail); refine wpQuiet_nil ?_
          refine SqC.quiet rfl rfl ?_; go_big_quiet_step (fail); refine wpQuiet_nil ?_
          refine SqC.nil ?_
          go_wp2
          go_ret
          exact ⟨by rw [HZ.out]; rfl, HB1.out.trans (eX.mono HB1.out.size)⟩
        · have h1 : (bits .andNot .i64 xp xw != 0) = true := by rw [bne_iff_ne]; exact h0
          have HZ := Lib.hid (show decide (bits .andNot .i64 xp xw = 0) = false by simp [h0])
          have h2 : (bits .andNot .i64 xp xw = 0) = False := eq_false h0
          refine SqC.quiet rfl rfl ?_; go_big_quiet_step (fail); refine wpQuiet_nil ?_
          refine SqC.quiet rfl rfl ?_; go_big_quiet_step (fail); refine wpQuiet_nil ?_
          refine SqC.quiet rfl rfl ?_; go_big_quiet_step (fail); refine wpQuiet_nil ?_
          refine SqC.value (.int .i64 xp) rfl rfl (by intro U hU; have cx := HY.out U hU; go_simp) ?_
          simp only [Act.put, List.setIfInBounds_toArray, List.set_cons_zero, List.set_cons_succ]
          refine SqC.quiet rfl rfl ?_; go_big_quiet_step (fail); refine wpQuiet_nil ?_
          refine SqC.value (.int .i64 xw) rfl rfl (by intro U hU; have cx := HX.out U hU; go_simp) ?_
          simp only [Act.put, List.setIfInBounds_toArray, List.set_cons_zero, List.set_cons_succ]
          refine SqC.quiet rfl rfl ?_; go_big_quiet_step (fail); refine wpQuiet_nil ?_
          refine SqC.quiet rfl rfl ?_; go_big_quiet_step (fail); refine wpQuiet_nil ?_
          refine SqC.quiet rfl rfl ?_; go_big_quiet_step (fail); refine wpQuiet_nil ?_
          refine SqC.quiet rfl rfl ?_; go_big_quiet_step (fail); refine wpQuiet_nil ?_
          refine SqC.nil ?_
          go_wp2
          go_ret
          exact ⟨by rw [HZ.out]; rfl, HB1.out.trans (eX.mono HB1.out.size)⟩
end Go.Proofs.Ytnkinjilnccmfaa
/- order: the program's has over what fits asks. -/
namespace Go.Proofs.Ytnkinjilnccmfaa
open Go.RowKit Go.Own Go.BigFrame Go.Big Go.Order
set_option maxRecDepth 100000 in
set_option maxHeartbeats 1600000 in
theorem hasNo_any (l : List Int) (f : Int → Bool) (s : Option Addr) (ca : Nat) (w : World) (hl : Sz w (.slice s l.length ca) l.length (intsI l)) (hn : l.length < 4611686018427387904)
    (hp : ∀ x ∈ l, ∀ U, Below w.heap.size w U → Calls Try.prog 61 #[.int .i64 x] U fun e w' => e = .returned (.bool (f x)) ∧ Below U.heap.size U w') :
    Calls Try.prog 51 #[.slice s l.length ca, (.func (.func 61) #[] #[])] w fun e w' => e = .returned (.bool (l.any f)) ∧ Below w.heap.size w w' := by
  have hn2 : (l.length : Int) < 4611686018427387904 := by omega
  have HL := Lib.hid hl; clear hl
  have HP := Lib.hid hp; clear hp
  go_enter Try.func51, Try.ntmps51
  go_wp2
  go_loopw [9] (fun v wr => ∃ i : Nat, i ≤ l.length ∧ v = .int .i64 i ∧ (∀ j (h : j < l.length), j < i → f l[j] = false) ∧ Below w.heap.size w wr) (fun v _ => l.length - (vInt v).toNat)
  case atStart => exact ⟨0, Nat.zero_le _, rfl, fun j _ h => by omega, Below.refl _ _⟩
  case round =>
    obtain ⟨i, hi, rfl, ht, hbr⟩ := hrel
    have HT := Lib.hid ht; clear ht
    by_cases hil : i < l.length
    · have hil' : (i : Int) < l.length := by omega
      obtain ⟨g, o, rfl, _, _, hC, hg⟩ := sl_at (HL.out (by omega)) (by omega)
      have hst : f l[i] = false → ∀ j (h : j < l.length), j < i + 1 → f l[j] = false := fun he j h hj => by
        by_cases e : j = i
        · subst e; exact he
        · exact HT.out j h (by omega)
      have hin : f l[i] = true → l.any f = true := fun he => List.any_eq_true.2 ⟨l[i], List.getElem_mem hil, he⟩
      have hc := HP.out l[i] (List.getElem_mem hil) wr hbr
      obtain ⟨x, hx⟩ : ∃ x, x = l[i] := ⟨_, rfl⟩
      have cx : wr.cell? ⟨g, o + i, none⟩ = some (.int .i64 x) := by rw [hx]; exact (hC.below hbr hg) i _ (intsI_at hil)
      rw [← hx] at hst hin hc
      obtain ⟨r, hr⟩ : ∃ r, r = f x := ⟨_, rfl⟩
      rw [← hr] at hst hin hc
      have HST := Lib.hid hst; clear hst
      have HIN := Lib.hid hin; clear hin
      have HC := Lib.hid hc; clear hc hx hr hC
      have HBR := Lib.hid hbr; clear hbr
      go_wp2_with (fail)
      refine HC.out.mono ?_
      rintro e w2 ⟨rfl, b2⟩
      have b2' := HBR.out.trans (b2.mono HBR.out.size)
      have HB2 := Lib.hid b2'; clear b2 b2' cx
      cases r with
      | false =>
        have HS := Lib.hid (HST.out rfl)
        go_wp2
        go_roundw
        case rel => exact ⟨i + 1, by omega, by go_num, HS.out, HB2.out⟩
        case measure => simp [vInt]; omega
      | true =>
        have HS := Lib.hid (HIN.out rfl)
        go_wp2
        go_ret
        exact ⟨by rw [HS.out]; rfl, HB2.out⟩
    · have hil' : ((i : Int) < l.length) = False := eq_false (by omega)
      have he : l.any f = false := by
        rw [List.any_eq_false]
        intro x hx
        obtain ⟨j, hj, rfl⟩ := List.getElem_of_mem hx
        rw [HT.out j hj (by omega)]
        exact Bool.false_ne_true
      have HE := Lib.hid he; clear he
      go_wp2
      go_ret
      exact ⟨by rw [HE.out]; rfl, hbr⟩
set_option maxRecDepth 100000 in
set_option maxHeartbeats 1600000 in
theorem hasBad_any (l : List Spl) (f : Spl → Bool) (gn : Nat) (s : Option Addr) (cz : Nat) (w : World) (hl : Lst w (.slice s l.length cz) l) (hn : l.length < 4611686018427387904)
    (hp : ∀ x ∈ l, ∀ U, Below w.heap.size w U → Calls Try.prog 63 #[x.v, .pointer (some ⟨gn, 0, none⟩)] U fun e w' => e = .returned (.bool (f x)) ∧ Below U.heap.size U w') :
    Calls Try.prog 47 #[.slice s l.length cz, (.func (.func 63) #[] #[.pointer (some ⟨gn, 0, none⟩)])] w fun e w' => e = .returned (.bool (l.any f)) ∧ Below w.heap.size w w' := by
  have hn2 : (l.length : Int) < 4611686018427387904 := by omega
  have HL := Lib.hid hl; clear hl
  have HP := Lib.hid hp; clear hp
  go_enter Try.func47, Try.ntmps47
  go_wp2
  go_loopw [9] (fun v wr => ∃ i : Nat, i ≤ l.length ∧ v = .int .i64 i ∧ (∀ j (h : j < l.length), j < i → f l[j] = false) ∧ Below w.heap.size w wr) (fun v _ => l.length - (vInt v).toNat)
  case atStart => exact ⟨0, Nat.zero_le _, rfl, fun j _ h => by omega, Below.refl _ _⟩
  case round =>
    obtain ⟨i, hi, rfl, ht, hbr⟩ := hrel
    have HT := Lib.hid ht; clear ht
    by_cases hil : i < l.length
    · have hil' : (i : Int) < l.length := by omega
      obtain ⟨g, o, rfl, _, _, _, hC, hg⟩ := HL.out.at (by omega)
      have cA := (Lst.cells hC hil).below hbr hg
      have hst : f l[i] = false → ∀ j (h : j < l.length), j < i + 1 → f l[j] = false := fun he j h hj => by
        by_cases e : j = i
        · subst e; exact he
        · exact HT.out j h (by omega)
      have hin : f l[i] = true → l.any f = true := fun he => List.any_eq_true.2 ⟨l[i], List.getElem_mem hil, he⟩
      have hc := HP.out l[i] (List.getElem_mem hil)
      obtain ⟨x, hx⟩ : ∃ x, x = l[i] := ⟨_, rfl⟩
      rw [← hx] at hst hin hc cA
      obtain ⟨r, hr⟩ : ∃ r, r = f x := ⟨_, rfl⟩
      rw [← hr] at hst hin hc
      clear hx hr hC
      obtain ⟨xw, xp, ⟨na, da, sa, ca⟩, ⟨nb, db, sb, cb⟩, ⟨nc, dc, sc, cc⟩, ⟨nd, dd, sd, cd⟩⟩ := x
      have hc2 : ∀ U, Below w.heap.size w U → Calls Try.prog 63 #[.agg #[.int .i64 xw, .int .i64 xp, .bool na, .slice sa da.length ca, .bool nb, .slice sb db.length cb, .bool nc, .slice sc dc.length cc, .bool nd, .slice sd dd.length cd], .pointer (some ⟨gn, 0, none⟩)] U fun e w' => e = .returned (.bool r) ∧ Below U.heap.size U w' := fun U hU => hc U hU
      have k0 : wr.cell? ⟨g, o + i * 10, none⟩ = some (.int .i64 xw) := by exact cA 0 _ rfl
      have k1 : wr.cell? ⟨g, o + i * 10 + 1, none⟩ = some (.int .i64 xp) := by exact cA 1 _ rfl
      have k2 : wr.cell? ⟨g, o + i * 10 + 2, none⟩ = some (.bool na) := by exact cA 2 _ rfl
      have k3 : wr.cell? ⟨g, o + i * 10 + 3, none⟩ = some (.slice sa da.length ca) := by exact cA 3 _ rfl
      have k4 : wr.cell? ⟨g, o + i * 10 + 4, none⟩ = some (.bool nb) := by exact cA 4 _ rfl
      have k5 : wr.cell? ⟨g, o + i * 10 + 5, none⟩ = some (.slice sb db.length cb) := by exact cA 5 _ rfl
      have k6 : wr.cell? ⟨g, o + i * 10 + 6, none⟩ = some (.bool nc) := by exact cA 6 _ rfl
      have k7 : wr.cell? ⟨g, o + i * 10 + 7, none⟩ = some (.slice sc dc.length cc) := by exact cA 7 _ rfl
      have k8 : wr.cell? ⟨g, o + i * 10 + 8, none⟩ = some (.bool nd) := by exact cA 8 _ rfl
      have k9 : wr.cell? ⟨g, o + i * 10 + 9, none⟩ = some (.slice sd dd.length cd) := by exact cA 9 _ rfl
      clear hc
      obtain ⟨W1, hW1⟩ : ∃ W1, W1 = wr.alloc (.cells #[.int .i64 xw, .int .i64 xp, .bool na, .slice sa da.length ca, .bool nb, .slice sb db.length cb, .bool nc, .slice sc dc.length cc, .bool nd, .slice sd dd.length cd] 58) := ⟨_, rfl⟩
      have b1 : Below w.heap.size w W1 := by rw [hW1]; exact hbr.trans ((alloc_below _ _).mono hbr.size)
      have HST := Lib.hid hst; clear hst
      have HIN := Lib.hid hin; clear hin
      have HC := Lib.hid (hc2 W1 b1); clear hc2
      have HB1 := Lib.hid b1; clear b1
      have HW1 := Lib.hid hW1; clear hW1 hbr cA
      go_wp2_with (fail)
      rw [← HW1.out]
      refine HC.out.mono ?_
      rintro e w2 ⟨rfl, b2⟩
      have b2' := HB1.out.trans (b2.mono HB1.out.size)
      have HB2 := Lib.hid b2'; clear b2 b2'
      clear k0 k1 k2 k3 k4 k5 k6 k7 k8 k9
      cases r with
      | false =>
        have HS := Lib.hid (HST.out rfl)
        go_wp2
        go_roundw
        case rel => exact ⟨i + 1, by omega, by go_num, HS.out, HB2.out⟩
        case measure => simp [vInt]; omega
      | true =>
        have HS := Lib.hid (HIN.out rfl)
        go_wp2
        go_ret
        exact ⟨by rw [HS.out]; rfl, HB2.out⟩
    · have hil' : ((i : Int) < l.length) = False := eq_false (by omega)
      have he : l.any f = false := by
        rw [List.any_eq_false]
        intro x hx
        obtain ⟨j, hj, rfl⟩ := List.getElem_of_mem hx
        rw [HT.out j hj (by omega)]
        exact Bool.false_ne_true
      have HE := Lib.hid he; clear he
      go_wp2
      go_ret
      exact ⟨by rw [HE.out]; rfl, hbr⟩
end Go.Proofs.Ytnkinjilnccmfaa
/- order: the program's fits answers as the reference's Error. -/
namespace Go.Order
open Go.RowKit Go.Own Go.Proofs.Ytnkinjilnccmfaa
theorem any_not {α : Type} (l : List α) (f : α → Bool) : (l.any fun x => !f x) = !l.all f := by
  induction l with
  | nil => rfl
  | cons x l ih => rw [List.any_cons, List.all_cons, ih, Bool.not_and]
end Go.Order
namespace Go.Proofs.Ytnkinjilnccmfaa
open Go.RowKit Go.Own Go.BigFrame Go.Big Go.Order
attribute [local go_sem high] run_store_func
set_option maxRecDepth 100000 in
set_option maxHeartbeats 3200000 in
theorem fits_any (whole : Int) (may : List Spl) (st : List Int) (s t : Option Addr) (ca cb : Nat) (w : World) (hl : Lst w (.slice s may.length ca) may) (hm : Sz w (.slice t st.length cb) st.length (intsI st)) :
    Calls Try.prog 32 #[.int .i64 whole, .slice s may.length ca, .slice t st.length cb] w fun e w' => e = .returned (.int .i64 (errV whole may st)) ∧ Below w.heap.size w w' := by
  have HL := Lib.hid hl; clear hl
  have HM := Lib.hid hm; clear hm
  by_cases h1 : 4096 < may.length
  · have e : errV whole may st = 4 := by unfold errV; rw [if_pos (.inl h1)]
    have E := Lib.hid e; clear e
    have h1' : (4096 : Int) < may.length := by omega
    go_enter Try.func32, Try.ntmps32
    go_wp2
    go_ret
    exact ⟨by rw [E.out]; rfl, Below.refl _ _⟩
  · by_cases h2 : 4096 < st.length
    · have e : errV whole may st = 4 := by unfold errV; rw [if_pos (.inr h2)]
      have E := Lib.hid e; clear e
      have h1' : ((4096 : Int) < may.length) = False := eq_false (by omega)
      have h2' : (4096 : Int) < st.length := by omega
      go_enter Try.func32, Try.ntmps32
      go_wp2
      go_ret
      exact ⟨by rw [E.out]; rfl, Below.refl _ _⟩
    · have h1' : ((4096 : Int) < may.length) = False := eq_false (by omega)
      have h2' : ((4096 : Int) < st.length) = False := eq_false (by omega)
      have e : errV whole may st = if isB whole && st.all isB && may.all Spl.ok then 0 else 1 := by unfold errV; rw [if_neg (by omega)]
      have E := Lib.hid e; clear e
      obtain ⟨W1, hW1⟩ : ∃ W1, W1 = w.alloc (.cells #[.func (.func 61) #[] #[]] 82) := ⟨_, rfl⟩
      have b1 : Below w.heap.size w W1 := by rw [hW1]; exact alloc_below _ _
      have hB : Blk W1 w.heap.size [.func (.func 61) #[] #[]] 82 := by rw [hW1]; exact Blk.new w #[.func (.func 61) #[] #[]] 82
      have hcell : ∀ U, Below W1.heap.size W1 U → U.cell? ⟨w.heap.size, 0, none⟩ = some (.func (.func 61) #[] #[]) := fun U hU => (hB.below hU hB.lt).cell rfl
      have hs := no_any whole W1
      have hS := fun U (hU : Below W1.heap.size W1 U) => hasNo_any st (fun x => !isB x) t cb U (HM.out.below (b1.trans (hU.mono b1.size))) (by omega) (fun x hx V hV => (no_any x V).mono fun e w' ⟨h1, h2⟩ => ⟨h1, by rw [h2]; exact Below.refl _ _⟩)
      have hT := fun U (hU : Below W1.heap.size W1 U) => hasBad_any may (fun x => !x.ok) w.heap.size s ca U (HL.out.below (b1.trans (hU.mono b1.size))) (by omega) (fun x hx V hV => bad_any x w.heap.size V (hcell V (hU.trans (hV.mono hU.size))))
      simp only [any_not] at hS hT
      obtain ⟨c1, hc1⟩ : ∃ c, c = !isB whole := ⟨_, rfl⟩
      obtain ⟨c2, hc2⟩ : ∃ c, c = !st.all isB := ⟨_, rfl⟩
      obtain ⟨c3, hc3⟩ : ∃ c, c = !may.all Spl.ok := ⟨_, rfl⟩
      rw [← hc1] at hs
      rw [← hc2] at hS
      rw [← hc3] at hT
      rw [show isB whole = !c1 by rw [hc1]; simp, show st.all isB = !c2 by rw [hc2]; simp, show may.all Spl.ok = !c3 by rw [hc3]; simp] at E
      clear hc1 hc2 hc3
      have q0 := hcell W1 (Below.refl _ _)
      have HCELL := Lib.hid hcell; clear hcell hB
      have HS := Lib.hid hs; clear hs
      have HS2 := Lib.hid hS; clear hS
      have HS3 := Lib.hid hT; clear hT
      have HB1 := Lib.hid b1; clear b1
      rw [hW1] at q0
      have HW1 := Lib.hid hW1; clear hW1
      go_enter Try.func32, Try.ntmps32
      go_wp2_with (fail)
      rw [← HW1.out]
      refine HS.out.mono ?_
      rintro e w2 ⟨rfl, h⟩
      have h3 := h.symm; clear h; subst h3
      clear q0
      cases c1 with
      | true =>
        go_wp2
        go_ret
        exact ⟨by rw [E.out]; rfl, HB1.out⟩
      | false =>
        have q0 := HCELL.out W1 (Below.refl _ _)
        go_wp2_with (fail)
        refine (HS2.out W1 (Below.refl _ _)).mono ?_
        rintro e w3 ⟨rfl, b3⟩
        clear q0
        cases c2 with
        | true =>
          go_wp2
          go_ret
          exact ⟨by rw [E.out]; rfl, HB1.out.trans (b3.mono HB1.out.size)⟩
        | false =>
          have HB3 := Lib.hid b3; clear b3
          go_wp2_with (fail)
          refine (HS3.out w3 HB3.out).mono ?_
          rintro e w4 ⟨rfl, b4⟩
          have b4' : Below w.heap.size w w4 := HB1.out.trans ((HB3.out.trans (b4.mono HB3.out.size)).mono HB1.out.size)
          clear b4
          cases c3 with
          | true =>
            go_wp2
            go_ret
            exact ⟨by rw [E.out]; rfl, b4'⟩
          | false =>
            go_wp2
            go_ret
            exact ⟨by rw [E.out]; rfl, b4'⟩
end Go.Proofs.Ytnkinjilnccmfaa
/- order: maps of sets; the program's CheckNone asks its closures. -/
namespace Go.Own
open Go.RowKit
/-- Block A is a map that says f. -/
def MapV (w : World) (A : Nat) (f : Int → Option Value) : Prop := ∃ m, IMap w A m ∧ ∀ k, mget m k = f k
theorem MapV.lt {w : World} {A : Nat} {f : Int → Option Value} (h : MapV w A f) : A < w.heap.size := by obtain ⟨m, h, _⟩ := h; exact h.lt
theorem MapV.below {w w' : World} {A : Nat} {f : Int → Option Value} (h : MapV w A f) (hb : Below w.heap.size w w') : MapV w' A f := by obtain ⟨m, h, h2⟩ := h; exact ⟨m, h.below hb, h2⟩
theorem MapV.chg {F : List Nat} {w w' : World} {A : Nat} {f : Int → Option Value} (h : MapV w A f) (hb : Chg F w w') (hA : A ∉ F) : MapV w' A f := by obtain ⟨m, h, h2⟩ := h; exact ⟨m, h.chg hb hA, h2⟩
theorem MapV.congr {w : World} {A : Nat} {f g : Int → Option Value} (h : MapV w A f) (e : ∀ k, f k = g k) : MapV w A g := by obtain ⟨m, h, h2⟩ := h; exact ⟨m, h, fun k => by rw [h2, e]⟩
theorem MapV.new (w : World) : MapV (w.alloc (.map #[] 0)) w.heap.size fun _ => none := ⟨[], IMap.new w, fun _ => rfl⟩
theorem MapV.set {w' : World} {A : Nat} {f : Int → Option Value} {m : List (Int × Value)} (hm : ∀ k, mget m k = f k) {k : Int} {v : Value} (h : IMap w' A (mset m k v)) : MapV w' A fun x => if x = k then some v else f x :=
  ⟨_, h, fun x => by rw [mget_mset, hm x]⟩
theorem MapV.look {P : Program} {T K E : TypeId} {w : World} {A : Nat} {f : Int → Option Value} (h : MapV w A f) (hT : P.underlying T = some (.map K E)) (hK : P.underlying K = some (.int .i64)) {z : Value} (hz : (zeroValue E).run P w = .ok z w) (k : Int) (ok : Bool) :
    (Instr.lookup T (.map (some A)) (.int .i64 k) ok).run P w = .ok (if ok then .tuple #[(f k).getD z, .bool (f k).isSome] else (f k).getD z) w := by
  obtain ⟨m, hm, h2⟩ := h
  rw [run_lookup_imap hT hK hm hz k ok, h2]
/-- a set of sets -/
def bmap (f : Int → Bool) (k : Int) : Option Value := if f k then some (.bool true) else none
abbrev FirmM (w : World) (A : Nat) (f : Int → Bool) : Prop := MapV w A (bmap f)
theorem bmap_getD (f : Int → Bool) (k : Int) : (bmap f k).getD (.bool false) = .bool (f k) := by unfold bmap; cases f k <;> rfl
theorem FirmM.new (w : World) : FirmM (w.alloc (.map #[] 0)) w.heap.size fun _ => false := (MapV.new w).congr fun k => rfl
theorem FirmM.set {w' : World} {A : Nat} {f : Int → Bool} {m : List (Int × Value)} (hm : ∀ k, mget m k = bmap f k) {k : Int} (h : IMap w' A (mset m k (.bool true))) : FirmM w' A fun x => decide (x = k) || f x :=
  (MapV.set hm h).congr fun x => by
    unfold bmap
    by_cases e : x = k
    · simp [e]
    · simp [e]
end Go.Own
namespace Go.Order
open Go.RowKit Go.Own
theorem hasB_take {l : List Int} {i : Nat} (h : i < l.length) (k : Int) : hasB (l.take (i + 1)) k = (decide (k = l[i]) || hasB (l.take i) k) := by
  unfold hasB
  rw [List.take_succ_eq_append_getElem h, Bool.eq_iff_iff, Bool.or_eq_true, List.contains_iff_mem, List.contains_iff_mem, decide_eq_true_eq, List.mem_append, List.mem_singleton]
  exact Or.comm
end Go.Order
namespace Go.Proofs.Ytnkinjilnccmfaa
open Go.RowKit Go.Own Go.BigFrame Go.Big Go.Order
theorem hTfirm : Try.prog.underlying 71 = some (.map 22 4) := by kernel_rfl
theorem hKset : Try.prog.underlying 22 = some (.int .i64) := by kernel_rfl
theorem zeroBool (w : World) : (zeroValue 4).run Try.prog w = .ok (.bool false) w := by kernel_rfl
theorem mk_firm (u : World) : (Instr.makeMap 71 none).run Try.prog u = .ok (.map (some u.heap.size)) (u.alloc (.map #[] 0)) := by
  simp [Instr.makeMap, run_underlying hTfirm, run_newObj_alloc, Result.andThen]
theorem lookB {w : World} {A : Nat} {f : Int → Bool} (h : FirmM w A f) (k : Int) : (Instr.lookup 71 (.map (some A)) (.int .i64 k) false).run Try.prog w = .ok (.bool (f k)) w := by
  have := h.look (P := Try.prog) hTfirm hKset (zeroBool w) k false
  rw [this]
  simp only [Bool.false_eq_true, if_false, bmap_getD]
theorem open_any (s : Int) (A gi : Nat) (f : Int → Bool) (w : World) (hc : w.cell? ⟨gi, 0, none⟩ = some (.map (some A))) (hm : FirmM w A f) :
    Calls Try.prog 49 #[.int .i64 s, .pointer (some ⟨gi, 0, none⟩)] w fun e w' => e = .returned (.bool (decide (siz s = 1) && !f s)) ∧ w' = w := by
  have hl := lookB hm s
  have hs := size_any s w
  obtain ⟨b, hb⟩ : ∃ b, b = f s := ⟨_, rfl⟩
  obtain ⟨n, hn⟩ : ∃ n, n = siz s := ⟨_, rfl⟩
  rw [← hb] at hl ⊢
  rw [← hn] at hs ⊢
  have HS := Lib.hid hs; clear hs hn hb hm
  by_cases h1 : n = 1
  · have HN := Lib.hid (show decide (n = 1) = true by simp [h1])
    have h2 : ((n : Int) == 1) = true := by rw [h1]; rfl
    have h3 : ((n : Int) = 1) = True := eq_true (by omega)
    clear h1
    cases b with
    | true =>
      go_enter Try.func49, Try.ntmps49
      go_wp2_with (fail)
      refine HS.out.mono ?_
      rintro e w2 ⟨rfl, h⟩
      have h2 := h.symm; clear h; subst h2
      go_wp2
      go_ret
      exact ⟨by rw [HN.out]; rfl, rfl⟩
    | false =>
      go_enter Try.func49, Try.ntmps49
      go_wp2_with (fail)
      refine HS.out.mono ?_
      rintro e w2 ⟨rfl, h⟩
      have h2 := h.symm; clear h; subst h2
      go_wp2
      go_ret
      exact ⟨by rw [HN.out]; rfl, rfl⟩
  · have HN := Lib.hid (show decide (n = 1) = false by simp [h1])
    have h2 : ((n : Int) == 1) = false := by rw [beq_eq_false_iff_ne]; omega
    have h3 : ((n : Int) = 1) = False := eq_false (by omega)
    go_enter Try.func49, Try.ntmps49
    go_wp2_with (fail)
    refine HS.out.mono ?_
    rintro e w2 ⟨rfl, h⟩
    have h2 := h.symm; clear h; subst h2
    go_wp2
    go_ret
    exact ⟨by rw [HN.out]; rfl, rfl⟩
attribute [local irreducible] SqC.SqW
set_option maxRecDepth 100000 in
set_option maxHeartbeats 6400000 in
theorem grows_any (x : Spl) (A B gf gi : Nat) (firm inn : Int → Bool) (w : World) (hcf : w.cell? ⟨gf, 0, none⟩ = some (.map (some A))) (hci : w.cell? ⟨gi, 0, none⟩ = some (.map (some B))) (hmf : FirmM w A firm) (hmi : FirmM w B inn) :
    Calls Try.prog 50 #[x.v, .pointer (some ⟨gf, 0, none⟩), .pointer (some ⟨gi, 0, none⟩)] w fun e w' => e = .returned (.bool (firm x.w && inn x.p && inn x.rest && !inn x.w)) ∧ Below w.heap.size w w' := by
  have hr := rest_any x
  obtain ⟨R, hR⟩ : ∃ R, R = x.rest := ⟨_, rfl⟩
  rw [← hR] at hr ⊢
  clear hR
  obtain ⟨xw, xp, ⟨na, da, sa, ca⟩, ⟨nb, db, sb, cb⟩, ⟨nc, dc, sc, cc⟩, ⟨nd, dd, sd, cd⟩⟩ := x
  obtain ⟨va, hva⟩ : ∃ va : Value, va = .slice sa da.length ca := ⟨_, rfl⟩
  obtain ⟨vb, hvb⟩ : ∃ vb : Value, vb = .slice sb db.length cb := ⟨_, rfl⟩
  obtain ⟨vc, hvc⟩ : ∃ vc : Value, vc = .slice sc dc.length cc := ⟨_, rfl⟩
  obtain ⟨vd, hvd⟩ : ∃ vd : Value, vd = .slice sd dd.length cd := ⟨_, rfl⟩
  have hr' : ∀ U : World, Calls Try.prog 37 #[.agg #[.int .i64 xw, .int .i64 xp, .bool na, va, .bool nb, vb, .bool nc, vc, .bool nd, vd]] U fun e w' => e = .returned (.int .i64 R) ∧ Below U.heap.size U w' := fun U => by rw [hva, hvb, hvc, hvd]; exact hr U
  show Calls Try.prog 50 #[.agg #[.int .i64 xw, .int .i64 xp, .bool na, .slice sa da.length ca, .bool nb, .slice sb db.length cb, .bool nc, .slice sc dc.length cc, .bool nd, .slice sd dd.length cd], .pointer (some ⟨gf, 0, none⟩), .pointer (some ⟨gi, 0, none⟩)] w fun e w' => e = .returned (.bool (firm xw && inn xp && inn R && !inn xw)) ∧ Below w.heap.size w w'
  rw [← hva, ← hvb, ← hvc, ← hvd]
  clear hva hvb hvc hvd hr
  obtain ⟨W1, hW1⟩ : ∃ W1, W1 = w.alloc (.cells #[.int .i64 xw, .int .i64 xp, .bool na, va, .bool nb, vb, .bool nc, vc, .bool nd, vd] 58) := ⟨_, rfl⟩
  have hB : Blk W1 w.heap.size [.int .i64 xw, .int .i64 xp, .bool na, va, .bool nb, vb, .bool nc, vc, .bool nd, vd] 58 := by rw [hW1]; exact Blk.new w #[.int .i64 xw, .int .i64 xp, .bool na, va, .bool nb, vb, .bool nc, vc, .bool nd, vd] 58
  have bw1 : Below w.heap.size w W1 := by rw [hW1]; exact alloc_below _ _
  have hup : ∀ U, Below W1.heap.size W1 U → Below w.heap.size w U := fun U hU => bw1.trans (hU.mono bw1.size)
  have hx : ∀ U, Below W1.heap.size W1 U → U.cell? ⟨w.heap.size, 0, none⟩ = some (.int .i64 xw) := fun U hU => (hB.below hU hB.lt).cell rfl
  have hy : ∀ U, Below W1.heap.size W1 U → U.cell? ⟨w.heap.size, 1, none⟩ = some (.int .i64 xp) := fun U hU => (hB.below hU hB.lt).cell rfl
  have hgf : gf < w.heap.size := World.block_lt_of_cell? _ _ hcf
  have hgi : gi < w.heap.size := World.block_lt_of_cell? _ _ hci
  have hf : ∀ U, Below W1.heap.size W1 U → U.cell? ⟨gf, 0, none⟩ = some (.map (some A)) := fun U hU => by rw [← hcf]; exact (hup U hU).cell (p := ⟨gf, 0, none⟩) hgf
  have hi : ∀ U, Below W1.heap.size W1 U → U.cell? ⟨gi, 0, none⟩ = some (.map (some B)) := fun U hU => by rw [← hci]; exact (hup U hU).cell (p := ⟨gi, 0, none⟩) hgi
  have hl : ∀ U, Below W1.heap.size W1 U → (loadVar 58 ⟨w.heap.size, 0, none⟩).run Try.prog U = .ok (.agg #[.int .i64 xw, .int .i64 xp, .bool na, va, .bool nb, vb, .bool nc, vc, .bool nd, vd]) U := fun U hU =>
    run_load_agg (P := Try.prog) (ty := 58) (hB.below hU hB.lt).cells0 aggS infoS
  obtain ⟨b1, hb1⟩ : ∃ b, b = firm xw := ⟨_, rfl⟩
  obtain ⟨b2, hb2⟩ : ∃ b, b = inn xp := ⟨_, rfl⟩
  obtain ⟨b3, hb3⟩ : ∃ b, b = inn R := ⟨_, rfl⟩
  obtain ⟨b4, hb4⟩ : ∃ b, b = inn xw := ⟨_, rfl⟩
  have l1 : ∀ U, Below W1.heap.size W1 U → (Instr.lookup 71 (.map (some A)) (.int .i64 xw) false).run Try.prog U = .ok (.bool b1) U := fun U hU => by rw [hb1]; exact lookB (hmf.below (hup U hU)) xw
  have l2 : ∀ U, Below W1.heap.size W1 U → (Instr.lookup 71 (.map (some B)) (.int .i64 xp) false).run Try.prog U = .ok (.bool b2) U := fun U hU => by rw [hb2]; exact lookB (hmi.below (hup U hU)) xp
  have l3 : ∀ U, Below W1.heap.size W1 U → (Instr.lookup 71 (.map (some B)) (.int .i64 R) false).run Try.prog U = .ok (.bool b3) U := fun U hU => by rw [hb3]; exact lookB (hmi.below (hup U hU)) R
  have l4 : ∀ U, Below W1.heap.size W1 U → (Instr.lookup 71 (.map (some B)) (.int .i64 xw) false).run Try.prog U = .ok (.bool b4) U := fun U hU => by rw [hb4]; exact lookB (hmi.below (hup U hU)) xw
  rw [← hb1, ← hb2, ← hb3, ← hb4]
  clear hb1 hb2 hb3 hb4 hmf hmi hcf hci hup
  have HX := Lib.hid hx; clear hx
  have HY := Lib.hid hy; clear hy
  have HF := Lib.hid hf; clear hf
  have HI := Lib.hid hi; clear hi
  have L1 := Lib.hid l1; clear l1
  have L2 := Lib.hid l2; clear l2
  have L3 := Lib.hid l3; clear l3
  have L4 := Lib.hid l4; clear l4
  have HLD := Lib.hid hl; clear hl hB
  have HR := Lib.hid hr'; clear hr'
  have HW1 := Lib.hid hW1; clear hW1
  have HB1 := Lib.hid bw1; clear bw1
  go_enter Try.func50, Try.ntmps50
  go_step
  go_wp2
  rw [← HW1.out]
  have eX : Below W1.heap.size W1 W1.drew := (Below.refl _ _).drew
  haveI : Nonempty (SqC.Come fun U : World => Below W1.heap.size W1 U) := ⟨⟨_, eX⟩⟩
  refine SqC.wp_region_sqc 24 [13] (fun U : World => Below W1.heap.size W1 U) (by kernel_rfl) (by kernel_rfl) (by kernel_rfl) eX ?_
  obtain ⟨wd, hwd⟩ : ∃ wd : World, wd = W1.drew := ⟨_, rfl⟩
  rw [← hwd] at eX ⊢
  clear hwd
  refine SqC.value (.map (some A)) rfl rfl (by intro U hU; have cx := HF.out U hU; go_simp) ?_
  simp only [Act.put, List.setIfInBounds_toArray, List.set_cons_zero, List.set_cons_succ]
  refine SqC.quiet rfl rfl ?_; go_big_quiet_step (fail); refine wpQuiet_nil ?_
  refine SqC.value (.int .i64 xw) rfl rfl (by intro U hU; have cx := HX.out U hU; go_simp) ?_
  simp only [Act.put, List.setIfInBounds_toArray, List.set_cons_zero, List.set_cons_succ]
  refine SqC.value (.bool b1) rfl rfl (by intro U hU; have hl := L1.out U hU; go_simp) ?_
  simp only [Act.put, List.setIfInBounds_toArray, List.set_cons_zero, List.set_cons_succ]
  cases b1 with
  | false =>
    refine SqC.quiet rfl rfl ?_; go_big_quiet_step (fail); refine wpQuiet_nil ?_
    refine SqC.skip rfl ?_
    simp only [Act.put, List.setIfInBounds_toArray, List.set_cons_zero, List.set_cons_succ]
    refine SqC.skip rfl ?_
    simp only [Act.put, List.setIfInBounds_toArray, List.set_cons_zero, List.set_cons_succ]
    refine SqC.skip rfl ?_
    simp only [Act.put, List.setIfInBounds_toArray, List.set_cons_zero, List.set_cons_succ]
    refine SqC.skip rfl ?_
    simp only [Act.put, List.setIfInBounds_toArray, List.set_cons_zero, List.set_cons_succ]
    refine SqC.quiet rfl rfl ?_; go_big_quiet_step (fail); refine wpQuiet_nil ?_
    refine SqC.quiet rfl rfl ?_; go_big_quiet_step (fail); refine wpQuiet_nil ?_
    refine SqC.skip rfl ?_
    simp only [Act.put, List.setIfInBounds_toArray, List.set_cons_zero, List.set_cons_succ]
    refine SqC.skip rfl ?_
    simp only [Act.put, List.setIfInBounds_toArray, List.set_cons_zero, List.set_cons_succ]
    refine SqC.skip rfl ?_
    simp only [Act.put, List.setIfInBounds_toArray, List.set_cons_zero, List.set_cons_succ]
    refine SqC.skip rfl ?_
    simp only [Act.put, List.setIfInBounds_toArray, List.set_cons_zero, List.set_cons_succ]
    refine SqC.quiet rfl rfl ?_; go_big_quiet_step (fail); refine wpQuiet_nil ?_
    refine SqC.quiet rfl rfl ?_; go_big_quiet_step (fail); refine wpQuiet_nil ?_
    refine SqC.skip rfl ?_
    simp only [Act.put, List.setIfInBounds_toArray, List.set_cons_zero, List.set_cons_succ]
    refine SqC.skip rfl ?_
    simp only [Act.put, List.setIfInBounds_toArray, List.set_cons_zero, List.set_cons_succ]
    refine SqC.skip rfl ?_
    simp only [Act.put, List.setIfInBounds_toArray, List.set_cons_zero, List.set_cons_succ]
    refine SqC.skip rfl ?_
    simp only [Act.put, List.setIfInBounds_toArray, List.set_cons_zero, List.set_cons_succ]
    refine SqC.skip rfl ?_
    simp only [Act.put, List.setIfInBounds_toArray, List.set_cons_zero, List.set_cons_succ]
    refine SqC.quiet rfl rfl ?_; go_big_quiet_step (fail); refine wpQuiet_nil ?_
    refine SqC.quiet rfl rfl ?_; go_big_quiet_step (fail); refine wpQuiet_nil ?_
    refine SqC.nil ?_
    go_wp2
    go_ret
    exact ⟨rfl, HB1.out.trans (eX.mono HB1.out.size)⟩
  | true =>
    refine SqC.quiet rfl rfl ?_; go_big_quiet_step (fail); refine wpQuiet_nil ?_
    refine SqC.value (.map (some B)) rfl rfl (by intro U hU; have cx := HI.out U hU; go_simp) ?_
    simp only [Act.put, List.setIfInBounds_toArray, List.set_cons_zero, List.set_cons_succ]
    refine SqC.quiet rfl rfl ?_; go_big_quiet_step (fail); refine wpQuiet_nil ?_
    refine SqC.value (.int .i64 xp) rfl rfl (by intro U hU; have cx := HY.out U hU; go_simp) ?_
    simp only [Act.put, List.setIfInBounds_toArray, List.set_cons_zero, List.set_cons_succ]
    refine SqC.value (.bool b2) rfl rfl (by intro U hU; have hl := L2.out U hU; go_simp) ?_
    simp only [Act.put, List.setIfInBounds_toArray, List.set_cons_zero, List.set_cons_succ]
    cases b2 with
    | false =>
      refine SqC.quiet rfl rfl ?_; go_big_quiet_step (fail); refine wpQuiet_nil ?_
      refine SqC.quiet rfl rfl ?_; go_big_quiet_step (fail); refine wpQuiet_nil ?_
      refine SqC.skip rfl ?_
      simp only [Act.put, List.setIfInBounds_toArray, List.set_cons_zero, List.set_cons_succ]
      refine SqC.skip rfl ?_
      simp only [Act.put, List.setIfInBounds_toArray, List.set_cons_zero, List.set_cons_succ]
      refine SqC.skip rfl ?_
      simp only [Act.put, List.setIfInBounds_toArray, List.set_cons_zero, List.set_cons_succ]
      refine SqC.skip rfl ?_
      simp only [Act.put, List.setIfInBounds_toArray, List.set_cons_zero, List.set_cons_succ]
      refine SqC.quiet rfl rfl ?_; go_big_quiet_step (fail); refine wpQuiet_nil ?_
      refine SqC.quiet rfl rfl ?_; go_big_quiet_step (fail); refine wpQuiet_nil ?_
      refine SqC.skip rfl ?_
      simp only [Act.put, List.setIfInBounds_toArray, List.set_cons_zero, List.set_cons_succ]
      refine SqC.skip rfl ?_
      simp only [Act.put, List.setIfInBounds_toArray, List.set_cons_zero, List.set_cons_succ]
      refine SqC.skip rfl ?_
      simp only [Act.put, List.setIfInBounds_toArray, List.set_cons_zero, List.set_cons_succ]
      refine SqC.skip rfl ?_
      simp only [Act.put, List.setIfInBounds_toArray, List.set_cons_zero, List.set_cons_succ]
      refine SqC.skip rfl ?_
      simp only [Act.put, List.setIfInBounds_toArray, List.set_cons_zero, List.set_cons_succ]
      refine SqC.quiet rfl rfl ?_; go_big_quiet_step (fail); refine wpQuiet_nil ?_
      refine SqC.quiet rfl rfl ?_; go_big_quiet_step (fail); refine wpQuiet_nil ?_
      refine SqC.nil ?_
      go_wp2
      go_ret
      exact ⟨rfl, HB1.out.trans (eX.mono HB1.out.size)⟩
    | true =>
      refine SqC.quiet rfl rfl ?_; go_big_quiet_step (fail); refine wpQuiet_nil ?_
      refine SqC.quiet rfl rfl ?_; go_big_quiet_step (fail); refine wpQuiet_nil ?_
      refine SqC.value (.map (some B)) rfl rfl (by intro U hU; have cx := HI.out U hU; go_simp) ?_
      simp only [Act.put, List.setIfInBounds_toArray, List.set_cons_zero, List.set_cons_succ]
      refine SqC.value (.agg #[.int .i64 xw, .int .i64 xp, .bool na, va, .bool nb, vb, .bool nc, vc, .bool nd, vd]) rfl rfl (fun U hU => load_agg_exec rfl rfl (HLD.out U hU)) ?_
      simp only [Act.put, List.setIfInBounds_toArray, List.set_cons_zero, List.set_cons_succ]
      refine SqC.effect rfl rfl ?_
      refine yields_call rfl (by kernel_rfl) rfl rfl ((HR.out wd).mono ?_)
      rintro e w5 ⟨rfl, b5⟩
      have eX5 : Below W1.heap.size W1 w5 := eX.trans (b5.mono eX.size)
      refine ⟨_, rfl, fun _ => eX5, ?_⟩
      simp only [Act.put, List.setIfInBounds_toArray, List.set_cons_zero, List.set_cons_succ]
      clear b5 eX
      have eX := eX5
      clear eX5
      refine SqC.value (.bool b3) rfl rfl (by intro U hU; have hl := L3.out U hU; go_simp) ?_
      simp only [Act.put, List.setIfInBounds_toArray, List.set_cons_zero, List.set_cons_succ]
      cases b3 with
      | false =>
        refine SqC.quiet rfl rfl ?_; go_big_quiet_step (fail); refine wpQuiet_nil ?_
        refine SqC.quiet rfl rfl ?_; go_big_quiet_step (fail); refine wpQuiet_nil ?_
        refine SqC.skip rfl ?_
        simp only [Act.put, List.setIfInBounds_toArray, List.set_cons_zero, List.set_cons_succ]
        refine SqC.skip rfl ?_
        simp only [Act.put, List.setIfInBounds_toArray, List.set_cons_zero, List.set_cons_succ]
        refine SqC.skip rfl ?_
        simp only [Act.put, List.setIfInBounds_toArray, List.set_cons_zero, List.set_cons_succ]
        refine SqC.skip rfl ?_
        simp only [Act.put, List.setIfInBounds_toArray, List.set_cons_zero, List.set_cons_succ]
        refine SqC.skip rfl ?_
        simp only [Act.put, List.setIfInBounds_toArray, List.set_cons_zero, List.set_cons_succ]
        refine SqC.quiet rfl rfl ?_; go_big_quiet_step (fail); refine wpQuiet_nil ?_
        refine SqC.quiet rfl rfl ?_; go_big_quiet_step (fail); refine wpQuiet_nil ?_
        refine SqC.nil ?_
        go_wp2
        go_ret
        exact ⟨rfl, HB1.out.trans (eX.mono HB1.out.size)⟩
      | true =>
        refine SqC.quiet rfl rfl ?_; go_big_quiet_step (fail); refine wpQuiet_nil ?_
        refine SqC.quiet rfl rfl ?_; go_big_quiet_step (fail); refine wpQuiet_nil ?_
        refine SqC.value (.map (some B)) rfl rfl (by intro U hU; have cx := HI.out U hU; go_simp) ?_
        simp only [Act.put, List.setIfInBounds_toArray, List.set_cons_zero, List.set_cons_succ]
        refine SqC.quiet rfl rfl ?_; go_big_quiet_step (fail); refine wpQuiet_nil ?_
        refine SqC.value (.int .i64 xw) rfl rfl (by intro U hU; have cx := HX.out U hU; go_simp) ?_
        simp only [Act.put, List.setIfInBounds_toArray, List.set_cons_zero, List.set_cons_succ]
        refine SqC.value (.bool b4) rfl rfl (by intro U hU; have hl := L4.out U hU; go_simp) ?_
        simp only [Act.put, List.setIfInBounds_toArray, List.set_cons_zero, List.set_cons_succ]
        cases b4 with
        | false =>
          refine SqC.value (.bool true) rfl rfl (by intro U hU; go_simp) ?_
          simp only [Act.put, List.setIfInBounds_toArray, List.set_cons_zero, List.set_cons_succ]
          refine SqC.quiet rfl rfl ?_; go_big_quiet_step (fail); refine wpQuiet_nil ?_
          refine SqC.quiet rfl rfl ?_; go_big_quiet_step (fail); refine wpQuiet_nil ?_
          refine SqC.nil ?_
          go_wp2
          go_ret
          exact ⟨rfl, HB1.out.trans (eX.mono HB1.out.size)⟩
        | true =>
          refine SqC.value (.bool false) rfl rfl (by intro U hU; go_simp) ?_
          simp only [Act.put, List.setIfInBounds_toArray, List.set_cons_zero, List.set_cons_succ]
          refine SqC.quiet rfl rfl ?_; go_big_quiet_step (fail); refine wpQuiet_nil ?_
          refine SqC.quiet rfl rfl ?_; go_big_quiet_step (fail); refine wpQuiet_nil ?_
          refine SqC.nil ?_
          go_wp2
          go_ret
          exact ⟨rfl, HB1.out.trans (eX.mono HB1.out.size)⟩
set_option maxRecDepth 100000 in
set_option maxHeartbeats 1600000 in
theorem hasOpen_any (l : List Int) (f : Int → Bool) (gi : Nat) (s : Option Addr) (ca : Nat) (w : World) (hl : Sz w (.slice s l.length ca) l.length (intsI l)) (hn : l.length < 4611686018427387904)
    (hp : ∀ x ∈ l, ∀ U, Below w.heap.size w U → Calls Try.prog 49 #[.int .i64 x, .pointer (some ⟨gi, 0, none⟩)] U fun e w' => e = .returned (.bool (f x)) ∧ Below U.heap.size U w') :
    Calls Try.prog 51 #[.slice s l.length ca, (.func (.func 49) #[] #[.pointer (some ⟨gi, 0, none⟩)])] w fun e w' => e = .returned (.bool (l.any f)) ∧ Below w.heap.size w w' := by
  have hn2 : (l.length : Int) < 4611686018427387904 := by omega
  have HL := Lib.hid hl; clear hl
  have HP := Lib.hid hp; clear hp
  go_enter Try.func51, Try.ntmps51
  go_wp2
  go_loopw [9] (fun v wr => ∃ i : Nat, i ≤ l.length ∧ v = .int .i64 i ∧ (∀ j (h : j < l.length), j < i → f l[j] = false) ∧ Below w.heap.size w wr) (fun v _ => l.length - (vInt v).toNat)
  case atStart => exact ⟨0, Nat.zero_le _, rfl, fun j _ h => by omega, Below.refl _ _⟩
  case round =>
    obtain ⟨i, hi, rfl, ht, hbr⟩ := hrel
    have HT := Lib.hid ht; clear ht
    by_cases hil : i < l.length
    · have hil' : (i : Int) < l.length := by omega
      obtain ⟨g, o, rfl, _, _, hC, hg⟩ := sl_at (HL.out (by omega)) (by omega)
      have hst : f l[i] = false → ∀ j (h : j < l.length), j < i + 1 → f l[j] = false := fun he j h hj => by
        by_cases e : j = i
        · subst e; exact he
        · exact HT.out j h (by omega)
      have hin : f l[i] = true → l.any f = true := fun he => List.any_eq_true.2 ⟨l[i], List.getElem_mem hil, he⟩
      have hc := HP.out l[i] (List.getElem_mem hil) wr hbr
      obtain ⟨x, hx⟩ : ∃ x, x = l[i] := ⟨_, rfl⟩
      have cx : wr.cell? ⟨g, o + i, none⟩ = some (.int .i64 x) := by rw [hx]; exact (hC.below hbr hg) i _ (intsI_at hil)
      rw [← hx] at hst hin hc
      obtain ⟨r, hr⟩ : ∃ r, r = f x := ⟨_, rfl⟩
      rw [← hr] at hst hin hc
      have HST := Lib.hid hst; clear hst
      have HIN := Lib.hid hin; clear hin
      have HC := Lib.hid hc; clear hc hx hr hC
      have HBR := Lib.hid hbr; clear hbr
      go_wp2_with (fail)
      refine HC.out.mono ?_
      rintro e w2 ⟨rfl, b2⟩
      have b2' := HBR.out.trans (b2.mono HBR.out.size)
      have HB2 := Lib.hid b2'; clear b2 b2' cx
      cases r with
      | false =>
        have HS := Lib.hid (HST.out rfl)
        go_wp2
        go_roundw
        case rel => exact ⟨i + 1, by omega, by go_num, HS.out, HB2.out⟩
        case measure => simp [vInt]; omega
      | true =>
        have HS := Lib.hid (HIN.out rfl)
        go_wp2
        go_ret
        exact ⟨by rw [HS.out]; rfl, HB2.out⟩
    · have hil' : ((i : Int) < l.length) = False := eq_false (by omega)
      have he : l.any f = false := by
        rw [List.any_eq_false]
        intro x hx
        obtain ⟨j, hj, rfl⟩ := List.getElem_of_mem hx
        rw [HT.out j hj (by omega)]
        exact Bool.false_ne_true
      have HE := Lib.hid he; clear he
      go_wp2
      go_ret
      exact ⟨by rw [HE.out]; rfl, hbr⟩
set_option maxRecDepth 100000 in
set_option maxHeartbeats 1600000 in
theorem hasGrows_any (l : List Spl) (f : Spl → Bool) (gf gi : Nat) (s : Option Addr) (cz : Nat) (w : World) (hl : Lst w (.slice s l.length cz) l) (hn : l.length < 4611686018427387904)
    (hp : ∀ x ∈ l, ∀ U, Below w.heap.size w U → Calls Try.prog 50 #[x.v, .pointer (some ⟨gf, 0, none⟩), .pointer (some ⟨gi, 0, none⟩)] U fun e w' => e = .returned (.bool (f x)) ∧ Below U.heap.size U w') :
    Calls Try.prog 47 #[.slice s l.length cz, (.func (.func 50) #[] #[.pointer (some ⟨gf, 0, none⟩), .pointer (some ⟨gi, 0, none⟩)])] w fun e w' => e = .returned (.bool (l.any f)) ∧ Below w.heap.size w w' := by
  have hn2 : (l.length : Int) < 4611686018427387904 := by omega
  have HL := Lib.hid hl; clear hl
  have HP := Lib.hid hp; clear hp
  go_enter Try.func47, Try.ntmps47
  go_wp2
  go_loopw [9] (fun v wr => ∃ i : Nat, i ≤ l.length ∧ v = .int .i64 i ∧ (∀ j (h : j < l.length), j < i → f l[j] = false) ∧ Below w.heap.size w wr) (fun v _ => l.length - (vInt v).toNat)
  case atStart => exact ⟨0, Nat.zero_le _, rfl, fun j _ h => by omega, Below.refl _ _⟩
  case round =>
    obtain ⟨i, hi, rfl, ht, hbr⟩ := hrel
    have HT := Lib.hid ht; clear ht
    by_cases hil : i < l.length
    · have hil' : (i : Int) < l.length := by omega
      obtain ⟨g, o, rfl, _, _, _, hC, hg⟩ := HL.out.at (by omega)
      have cA := (Lst.cells hC hil).below hbr hg
      have hst : f l[i] = false → ∀ j (h : j < l.length), j < i + 1 → f l[j] = false := fun he j h hj => by
        by_cases e : j = i
        · subst e; exact he
        · exact HT.out j h (by omega)
      have hin : f l[i] = true → l.any f = true := fun he => List.any_eq_true.2 ⟨l[i], List.getElem_mem hil, he⟩
      have hc := HP.out l[i] (List.getElem_mem hil)
      obtain ⟨x, hx⟩ : ∃ x, x = l[i] := ⟨_, rfl⟩
      rw [← hx] at hst hin hc cA
      obtain ⟨r, hr⟩ : ∃ r, r = f x := ⟨_, rfl⟩
      rw [← hr] at hst hin hc
      clear hx hr hC
      obtain ⟨xw, xp, ⟨na, da, sa, ca⟩, ⟨nb, db, sb, cb⟩, ⟨nc, dc, sc, cc⟩, ⟨nd, dd, sd, cd⟩⟩ := x
      have hc2 : ∀ U, Below w.heap.size w U → Calls Try.prog 50 #[.agg #[.int .i64 xw, .int .i64 xp, .bool na, .slice sa da.length ca, .bool nb, .slice sb db.length cb, .bool nc, .slice sc dc.length cc, .bool nd, .slice sd dd.length cd], .pointer (some ⟨gf, 0, none⟩), .pointer (some ⟨gi, 0, none⟩)] U fun e w' => e = .returned (.bool r) ∧ Below U.heap.size U w' := fun U hU => hc U hU
      have k0 : wr.cell? ⟨g, o + i * 10, none⟩ = some (.int .i64 xw) := by exact cA 0 _ rfl
      have k1 : wr.cell? ⟨g, o + i * 10 + 1, none⟩ = some (.int .i64 xp) := by exact cA 1 _ rfl
      have k2 : wr.cell? ⟨g, o + i * 10 + 2, none⟩ = some (.bool na) := by exact cA 2 _ rfl
      have k3 : wr.cell? ⟨g, o + i * 10 + 3, none⟩ = some (.slice sa da.length ca) := by exact cA 3 _ rfl
      have k4 : wr.cell? ⟨g, o + i * 10 + 4, none⟩ = some (.bool nb) := by exact cA 4 _ rfl
      have k5 : wr.cell? ⟨g, o + i * 10 + 5, none⟩ = some (.slice sb db.length cb) := by exact cA 5 _ rfl
      have k6 : wr.cell? ⟨g, o + i * 10 + 6, none⟩ = some (.bool nc) := by exact cA 6 _ rfl
      have k7 : wr.cell? ⟨g, o + i * 10 + 7, none⟩ = some (.slice sc dc.length cc) := by exact cA 7 _ rfl
      have k8 : wr.cell? ⟨g, o + i * 10 + 8, none⟩ = some (.bool nd) := by exact cA 8 _ rfl
      have k9 : wr.cell? ⟨g, o + i * 10 + 9, none⟩ = some (.slice sd dd.length cd) := by exact cA 9 _ rfl
      clear hc
      obtain ⟨W1, hW1⟩ : ∃ W1, W1 = wr.alloc (.cells #[.int .i64 xw, .int .i64 xp, .bool na, .slice sa da.length ca, .bool nb, .slice sb db.length cb, .bool nc, .slice sc dc.length cc, .bool nd, .slice sd dd.length cd] 58) := ⟨_, rfl⟩
      have b1 : Below w.heap.size w W1 := by rw [hW1]; exact hbr.trans ((alloc_below _ _).mono hbr.size)
      have HST := Lib.hid hst; clear hst
      have HIN := Lib.hid hin; clear hin
      have HC := Lib.hid (hc2 W1 b1); clear hc2
      have HB1 := Lib.hid b1; clear b1
      have HW1 := Lib.hid hW1; clear hW1 hbr cA
      go_wp2_with (fail)
      rw [← HW1.out]
      refine HC.out.mono ?_
      rintro e w2 ⟨rfl, b2⟩
      have b2' := HB1.out.trans (b2.mono HB1.out.size)
      have HB2 := Lib.hid b2'; clear b2 b2'
      clear k0 k1 k2 k3 k4 k5 k6 k7 k8 k9
      cases r with
      | false =>
        have HS := Lib.hid (HST.out rfl)
        go_wp2
        go_roundw
        case rel => exact ⟨i + 1, by omega, by go_num, HS.out, HB2.out⟩
        case measure => simp [vInt]; omega
      | true =>
        have HS := Lib.hid (HIN.out rfl)
        go_wp2
        go_ret
        exact ⟨by rw [HS.out]; rfl, HB2.out⟩
    · have hil' : ((i : Int) < l.length) = False := eq_false (by omega)
      have he : l.any f = false := by
        rw [List.any_eq_false]
        intro x hx
        obtain ⟨j, hj, rfl⟩ := List.getElem_of_mem hx
        rw [HT.out j hj (by omega)]
        exact Bool.false_ne_true
      have HE := Lib.hid he; clear he
      go_wp2
      go_ret
      exact ⟨by rw [HE.out]; rfl, hbr⟩
end Go.Proofs.Ytnkinjilnccmfaa
