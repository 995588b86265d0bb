/- order: the closure that asks for an equal split; has over it; Contains. -/
import Derived.Test.YtnkinjilnccmfaaQ13a
namespace Go.Order
open Go.RowKit Go.Own Go.Proofs.Ytnkinjilnccmfaa
theorem Num.eqv_comm (x y : Num) : x.eqv y = y.eqv x := by unfold Num.eqv; rw [Bool.beq_comm, @Bool.beq_comm _ _ _ x.d]
end Go.Order
namespace Go.Proofs.Ytnkinjilnccmfaa
open Go.RowKit Go.Own Go.BigFrame Go.Big Go.Order
set_option maxRecDepth 100000 in
set_option maxHeartbeats 1600000 in
theorem esame_any (x y : Spl) (gx : Nat) (w : World) (hx : x.At w) (hy : y.At w) (hC : Cells w gx 0 x.cells) (hgx : gx < w.heap.size) :
    Calls Try.prog 45 #[y.v, .pointer (some ⟨gx, 0, none⟩)] w fun e w' => e = .returned (.bool (x.eqv y)) ∧ Below w.heap.size w w' := by
  have he1 := fun U (hU : Below w.heap.size w U) => tsame_any x.a x.b y.a y.b U (hx.below hU).a (hx.below hU).b (hy.below hU).a (hy.below hU).b
  have he2 := fun U (hU : Below w.heap.size w U) => tsame_any x.c x.d y.c y.d U (hx.below hU).c (hx.below hU).d (hy.below hU).c (hy.below hU).d
  have heq : x.eqv y = (x.w == y.w && x.p == y.p && (x.a.eqv y.a && x.b.eqv y.b) && (x.c.eqv y.c && x.d.eqv y.d)) := rfl
  rw [heq]
  clear heq
  obtain ⟨r1, hr1⟩ : ∃ r1, r1 = (x.a.eqv y.a && x.b.eqv y.b) := ⟨_, rfl⟩
  obtain ⟨r2, hr2⟩ : ∃ r2, r2 = (x.c.eqv y.c && x.d.eqv y.d) := ⟨_, rfl⟩
  rw [← hr1] at he1 ⊢
  rw [← hr2] at he2 ⊢
  clear hr1 hr2 hx hy
  obtain ⟨xw, xp, ⟨na, da, sa, ca⟩, ⟨nb, db, sb, cb⟩, ⟨nc, dc, sc, cc⟩, ⟨nd, dd, sd, cd⟩⟩ := x
  obtain ⟨xw', xp', ⟨na', da', sa', ca'⟩, ⟨nb', db', sb', cb'⟩, ⟨nc', dc', sc', cc'⟩, ⟨nd', dd', sd', cd'⟩⟩ := y
  obtain ⟨va, hva⟩ : ∃ va : Value, va = .slice sa da.length ca := ⟨_, rfl⟩
  obtain ⟨vb, hvb⟩ : ∃ vb : Value, vb = .slice sb db.length cb := ⟨_, rfl⟩
  obtain ⟨vc, hvc⟩ : ∃ vc : Value, vc = .slice sc dc.length cc := ⟨_, rfl⟩
  obtain ⟨vd, hvd⟩ : ∃ vd : Value, vd = .slice sd dd.length cd := ⟨_, rfl⟩
  obtain ⟨va', hva'⟩ : ∃ va' : Value, va' = .slice sa' da'.length ca' := ⟨_, rfl⟩
  obtain ⟨vb', hvb'⟩ : ∃ vb' : Value, vb' = .slice sb' db'.length cb' := ⟨_, rfl⟩
  obtain ⟨vc', hvc'⟩ : ∃ vc' : Value, vc' = .slice sc' dc'.length cc' := ⟨_, rfl⟩
  obtain ⟨vd', hvd'⟩ : ∃ vd' : Value, vd' = .slice sd' dd'.length cd' := ⟨_, rfl⟩
  have hf1 : ∀ U, Below w.heap.size w U → Calls Try.prog 46 #[.agg #[.bool na, va, .bool nb, vb], .agg #[.bool na', va', .bool nb', vb']] U fun e w' => e = .returned (.bool r1) ∧ Below U.heap.size U w' := fun U hU => by rw [hva, hva', hvb, hvb']; exact he1 U hU
  have hf2 : ∀ U, Below w.heap.size w U → Calls Try.prog 46 #[.agg #[.bool nc, vc, .bool nd, vd], .agg #[.bool nc', vc', .bool nd', vd']] U fun e w' => e = .returned (.bool r2) ∧ Below U.heap.size U w' := fun U hU => by rw [hvc, hvc', hvd, hvd']; exact he2 U hU
  have hC' : Cells w gx 0 [.int .i64 xw, .int .i64 xp, .bool na, va, .bool nb, vb, .bool nc, vc, .bool nd, vd] := by rw [hva, hvb, hvc, hvd]; exact hC
  show Calls Try.prog 45 #[.agg #[.int .i64 xw', .int .i64 xp', .bool na', .slice sa' da'.length ca', .bool nb', .slice sb' db'.length cb', .bool nc', .slice sc' dc'.length cc', .bool nd', .slice sd' dd'.length cd'], .pointer (some ⟨gx, 0, none⟩)] w fun e w' => e = .returned (.bool (xw == xw' && xp == xp' && r1 && r2)) ∧ Below w.heap.size w w'
  rw [← hva', ← hvb', ← hvc', ← hvd']
  clear hva hvb hvc hvd hva' hvb' hvc' hvd' he1 he2 hC
  obtain ⟨W2, hW2⟩ : ∃ W2, W2 = w.alloc (.cells #[.int .i64 xw', .int .i64 xp', .bool na', va', .bool nb', vb', .bool nc', vc', .bool nd', vd'] 58) := ⟨_, rfl⟩
  have b02 : Below w.heap.size w W2 := by rw [hW2]; exact alloc_below _ _
  have B2 : Blk W2 w.heap.size [.int .i64 xw', .int .i64 xp', .bool na', va', .bool nb', vb', .bool nc', vc', .bool nd', vd'] 58 := by rw [hW2]; exact Blk.new w #[.int .i64 xw', .int .i64 xp', .bool na', va', .bool nb', vb', .bool nc', vc', .bool nd', vd'] 58
  have HBB : ∀ U, Below W2.heap.size W2 U → (∀ j v, [.int .i64 xw, .int .i64 xp, .bool na, va, .bool nb, vb, .bool nc, vc, .bool nd, vd][j]? = some v → U.cell? ⟨gx, j, none⟩ = some v) ∧ (∀ j v, [.int .i64 xw', .int .i64 xp', .bool na', va', .bool nb', vb', .bool nc', vc', .bool nd', vd'][j]? = some v → U.cell? ⟨w.heap.size, j, none⟩ = some v) := fun U hU => ⟨fun j v h => by
      have := (hC'.below (b02.trans (hU.mono b02.size)) hgx) j v h
      rwa [Nat.zero_add] at this, fun j v h => (B2.below hU B2.lt).cell h⟩
  obtain ⟨k1, k2⟩ := HBB W2 (Below.refl _ _)
  have q0 : W2.cell? ⟨gx, 0, none⟩ = some (.int .i64 xw) := k1 0 _ rfl
  have q1 : W2.cell? ⟨gx, 1, none⟩ = some (.int .i64 xp) := k1 1 _ rfl
  have q2 : W2.cell? ⟨gx, 2, none⟩ = some (.bool na) := k1 2 _ rfl
  have q3 : W2.cell? ⟨gx, 3, none⟩ = some (va) := k1 3 _ rfl
  have q4 : W2.cell? ⟨gx, 4, none⟩ = some (.bool nb) := k1 4 _ rfl
  have q5 : W2.cell? ⟨gx, 5, none⟩ = some (vb) := k1 5 _ rfl
  have q6 : W2.cell? ⟨gx, 6, none⟩ = some (.bool nc) := k1 6 _ rfl
  have q7 : W2.cell? ⟨gx, 7, none⟩ = some (vc) := k1 7 _ rfl
  have q8 : W2.cell? ⟨gx, 8, none⟩ = some (.bool nd) := k1 8 _ rfl
  have q9 : W2.cell? ⟨gx, 9, none⟩ = some (vd) := k1 9 _ rfl
  rw [hW2] at q0 q1 q2 q3 q4 q5 q6 q7 q8 q9
  clear k1 k2
  have F1 := Lib.hid (hf1 W2 b02); clear hf1
  have F2 := Lib.hid hf2; clear hf2
  have HCC := Lib.hid HBB; clear HBB
  have B02 := Lib.hid b02; clear b02 B2 hC'
  have HW2 := Lib.hid hW2; clear hW2
  have fin : ∀ u : Bool, u = (xw == xw' && xp == xp' && r1 && r2) → Ending.returned (.bool u) = .returned (.bool (xw == xw' && xp == xp' && r1 && r2)) := fun u h => by rw [h]
  have FIN := Lib.hid fin; clear fin
  by_cases hw : xw = xw'
  · have HWQ := Lib.hid (show (xw == xw') = true by rw [hw]; simp)
    subst hw
    by_cases hp : xp = xp'
    · have HPQ := Lib.hid (show (xp == xp') = true by rw [hp]; simp)
      subst hp
      go_enter Try.func45, Try.ntmps45
      go_wp2_with (fail)
      rw [← HW2.out]
      refine F1.out.mono ?_
      rintro e w3 ⟨rfl, b3⟩
      have b3' : Below w.heap.size w w3 := B02.out.trans (b3.mono B02.out.size)
      clear q0 q1 q2 q3 q4 q5 q6 q7 q8 q9
      cases r1 with
      | false =>
        go_wp2
        go_ret
        exact ⟨FIN.out _ (by simp), b3'⟩
      | true =>
        obtain ⟨k1, k2⟩ := HCC.out w3 b3
        have c1 : w3.cell? ⟨gx, 6, none⟩ = some (.bool nc) := k1 6 _ rfl
        have c2 : w3.cell? ⟨gx, 7, none⟩ = some vc := k1 7 _ rfl
        have c3 : w3.cell? ⟨gx, 8, none⟩ = some (.bool nd) := k1 8 _ rfl
        have c4 : w3.cell? ⟨gx, 9, none⟩ = some vd := k1 9 _ rfl
        have c5 : w3.cell? ⟨w.heap.size, 6, none⟩ = some (.bool nc') := k2 6 _ rfl
        have c6 : w3.cell? ⟨w.heap.size, 7, none⟩ = some vc' := k2 7 _ rfl
        have c7 : w3.cell? ⟨w.heap.size, 8, none⟩ = some (.bool nd') := k2 8 _ rfl
        have c8 : w3.cell? ⟨w.heap.size, 9, none⟩ = some vd' := k2 9 _ rfl
        have HB3 := Lib.hid b3'; clear b3' b3 k1 k2
        go_wp2_with (fail)
        refine (F2.out w3 HB3.out).mono ?_
        rintro e w4 ⟨rfl, b4⟩
        clear c1 c2 c3 c4 c5 c6 c7 c8
        go_wp2
        go_ret
        exact ⟨FIN.out _ (by simp), HB3.out.trans (b4.mono HB3.out.size)⟩
    · have HPQ := Lib.hid (show (xp == xp') = false by rw [beq_eq_false_iff_ne]; exact hp)
      have hp2 : (xp = xp') = False := eq_false hp
      have hp3 : (xp == xp') = false := HPQ.out
      go_enter Try.func45, Try.ntmps45
      go_wp2
      go_ret
      exact ⟨FIN.out _ (by rw [HPQ.out]; simp), by rw [← HW2.out]; exact B02.out⟩
  · have HWQ := Lib.hid (show (xw == xw') = false by rw [beq_eq_false_iff_ne]; exact hw)
    have hw2 : (xw = xw') = False := eq_false hw
    have hw3 : (xw == xw') = false := HWQ.out
    go_enter Try.func45, Try.ntmps45
    go_wp2
    go_ret
    exact ⟨FIN.out _ (by rw [HWQ.out]; simp), by rw [← HW2.out]; exact B02.out⟩
set_option maxRecDepth 100000 in
set_option maxHeartbeats 1600000 in
theorem hasSame_any (l : List Spl) (f : Spl → Bool) (gx : Nat) (s : Option Addr) (cz : Nat) (w : World) (hl : Lst w (.slice s l.length cz) l) (hn : l.length < 4611686018427387904)
    (hp : ∀ x ∈ l, ∀ U, Below w.heap.size w U → Calls Try.prog 45 #[x.v, .pointer (some ⟨gx, 0, none⟩)] U fun e w' => e = .returned (.bool (f x)) ∧ Below U.heap.size U w') :
    Calls Try.prog 47 #[.slice s l.length cz, (.func (.func 45) #[] #[.pointer (some ⟨gx, 0, none⟩)])] w fun e w' => e = .returned (.bool (l.any f)) ∧ Below w.heap.size w w' := by
  have hn2 : (l.length : Int) < 4611686018427387904 := by omega
  have HL := Lib.hid hl; clear hl
  have HP := Lib.hid hp; clear hp
  go_enter Try.func47, Try.ntmps47
  go_wp2
  go_loopw [9] (fun v wr => ∃ i : Nat, i ≤ l.length ∧ v = .int .i64 i ∧ (∀ j (h : j < l.length), j < i → f l[j] = false) ∧ Below w.heap.size w wr) (fun v _ => l.length - (vInt v).toNat)
  case atStart => exact ⟨0, Nat.zero_le _, rfl, fun j _ h => by omega, Below.refl _ _⟩
  case round =>
    obtain ⟨i, hi, rfl, ht, hbr⟩ := hrel
    have HT := Lib.hid ht; clear ht
    by_cases hil : i < l.length
    · have hil' : (i : Int) < l.length := by omega
      obtain ⟨g, o, rfl, _, _, _, hC, hg⟩ := HL.out.at (by omega)
      have cA := (Lst.cells hC hil).below hbr hg
      have hst : f l[i] = false → ∀ j (h : j < l.length), j < i + 1 → f l[j] = false := fun he j h hj => by
        by_cases e : j = i
        · subst e; exact he
        · exact HT.out j h (by omega)
      have hin : f l[i] = true → l.any f = true := fun he => List.any_eq_true.2 ⟨l[i], List.getElem_mem hil, he⟩
      have hc := HP.out l[i] (List.getElem_mem hil)
      obtain ⟨x, hx⟩ : ∃ x, x = l[i] := ⟨_, rfl⟩
      rw [← hx] at hst hin hc cA
      obtain ⟨r, hr⟩ : ∃ r, r = f x := ⟨_, rfl⟩
      rw [← hr] at hst hin hc
      clear hx hr hC
      obtain ⟨xw, xp, ⟨na, da, sa, ca⟩, ⟨nb, db, sb, cb⟩, ⟨nc, dc, sc, cc⟩, ⟨nd, dd, sd, cd⟩⟩ := x
      have hc2 : ∀ U, Below w.heap.size w U → Calls Try.prog 45 #[.agg #[.int .i64 xw, .int .i64 xp, .bool na, .slice sa da.length ca, .bool nb, .slice sb db.length cb, .bool nc, .slice sc dc.length cc, .bool nd, .slice sd dd.length cd], .pointer (some ⟨gx, 0, none⟩)] U fun e w' => e = .returned (.bool r) ∧ Below U.heap.size U w' := fun U hU => hc U hU
      have k0 : wr.cell? ⟨g, o + i * 10, none⟩ = some (.int .i64 xw) := by exact cA 0 _ rfl
      have k1 : wr.cell? ⟨g, o + i * 10 + 1, none⟩ = some (.int .i64 xp) := by exact cA 1 _ rfl
      have k2 : wr.cell? ⟨g, o + i * 10 + 2, none⟩ = some (.bool na) := by exact cA 2 _ rfl
      have k3 : wr.cell? ⟨g, o + i * 10 + 3, none⟩ = some (.slice sa da.length ca) := by exact cA 3 _ rfl
      have k4 : wr.cell? ⟨g, o + i * 10 + 4, none⟩ = some (.bool nb) := by exact cA 4 _ rfl
      have k5 : wr.cell? ⟨g, o + i * 10 + 5, none⟩ = some (.slice sb db.length cb) := by exact cA 5 _ rfl
      have k6 : wr.cell? ⟨g, o + i * 10 + 6, none⟩ = some (.bool nc) := by exact cA 6 _ rfl
      have k7 : wr.cell? ⟨g, o + i * 10 + 7, none⟩ = some (.slice sc dc.length cc) := by exact cA 7 _ rfl
      have k8 : wr.cell? ⟨g, o + i * 10 + 8, none⟩ = some (.bool nd) := by exact cA 8 _ rfl
      have k9 : wr.cell? ⟨g, o + i * 10 + 9, none⟩ = some (.slice sd dd.length cd) := by exact cA 9 _ rfl
      clear hc
      obtain ⟨W1, hW1⟩ : ∃ W1, W1 = wr.alloc (.cells #[.int .i64 xw, .int .i64 xp, .bool na, .slice sa da.length ca, .bool nb, .slice sb db.length cb, .bool nc, .slice sc dc.length cc, .bool nd, .slice sd dd.length cd] 58) := ⟨_, rfl⟩
      have b1 : Below w.heap.size w W1 := by rw [hW1]; exact hbr.trans ((alloc_below _ _).mono hbr.size)
      have HST := Lib.hid hst; clear hst
      have HIN := Lib.hid hin; clear hin
      have HC := Lib.hid (hc2 W1 b1); clear hc2
      have HB1 := Lib.hid b1; clear b1
      have HW1 := Lib.hid hW1; clear hW1 hbr cA
      go_wp2_with (fail)
      rw [← HW1.out]
      refine HC.out.mono ?_
      rintro e w2 ⟨rfl, b2⟩
      have b2' := HB1.out.trans (b2.mono HB1.out.size)
      have HB2 := Lib.hid b2'; clear b2 b2'
      clear k0 k1 k2 k3 k4 k5 k6 k7 k8 k9
      cases r with
      | false =>
        have HS := Lib.hid (HST.out rfl)
        go_wp2
        go_roundw
        case rel => exact ⟨i + 1, by omega, by go_num, HS.out, HB2.out⟩
        case measure => simp [vInt]; omega
      | true =>
        have HS := Lib.hid (HIN.out rfl)
        go_wp2
        go_ret
        exact ⟨by rw [HS.out]; rfl, HB2.out⟩
    · have hil' : ((i : Int) < l.length) = False := eq_false (by omega)
      have he : l.any f = false := by
        rw [List.any_eq_false]
        intro x hx
        obtain ⟨j, hj, rfl⟩ := List.getElem_of_mem hx
        rw [HT.out j hj (by omega)]
        exact Bool.false_ne_true
      have HE := Lib.hid he; clear he
      go_wp2
      go_ret
      exact ⟨by rw [HE.out]; rfl, hbr⟩
theorem index_any (l : List Int) (x : Int) (s : Option Addr) (ca : Nat) (w : World) (hl : Sz w (.slice s l.length ca) l.length (intsI l)) (hn : l.length < 4611686018427387904) :
    Calls Try.prog 70 #[.slice s l.length ca, .int .i64 x] w fun e w' => (∃ z : Int, e = .returned (.int .i64 z) ∧ (0 ≤ z ↔ hasB l x = true)) ∧ w' = w := by
  have hn2 : (l.length : Int) < 4611686018427387904 := by omega
  have HL := Lib.hid hl; clear hl
  go_enter Try.func70, Try.ntmps70
  go_wp2
  go_loopw [8] (fun v wr => ∃ i : Nat, i ≤ l.length ∧ v = .int .i64 i ∧ (∀ j (h : j < l.length), j < i → l[j] ≠ x) ∧ wr = w) (fun v _ => l.length - (vInt v).toNat)
  case atStart => exact ⟨0, Nat.zero_le _, rfl, fun j _ h => by omega, rfl⟩
  case round =>
    obtain ⟨i, hi, rfl, ht, rfl⟩ := hrel
    have HT := Lib.hid ht; clear ht
    by_cases hil : i < l.length
    · have hil' : (i : Int) < l.length := by omega
      obtain ⟨g, o, rfl, _, _, hC, hg⟩ := sl_at (HL.out (by omega)) (by omega)
      have hst : l[i] ≠ x → ∀ j (h : j < l.length), j < i + 1 → l[j] ≠ x := fun he j h hj => by
        by_cases e : j = i
        · subst e; exact he
        · exact HT.out j h (by omega)
      have hin : l[i] = x → hasB l x = true := fun he => by unfold hasB; rw [List.contains_iff_mem, ← he]; exact List.getElem_mem hil
      obtain ⟨y, hy⟩ : ∃ y, y = l[i] := ⟨_, rfl⟩
      have cx : wr.cell? ⟨g, o + i, none⟩ = some (.int .i64 y) := by rw [hy]; exact hC i _ (intsI_at hil)
      rw [← hy] at hst hin
      have HST := Lib.hid hst; clear hst
      have HIN := Lib.hid hin; clear hin hy hC
      by_cases hyx : y = x
      · have HI := Lib.hid (HIN.out hyx)
        have h1 : (x == y) = true := by rw [hyx]; simp
        have h2 : (x = y) = True := eq_true hyx.symm
        clear hyx
        go_wp2
        go_ret
        exact ⟨⟨i, rfl, by rw [HI.out]; simp⟩, rfl⟩
      · have HI := Lib.hid (HST.out hyx)
        have h1 : (x == y) = false := by rw [beq_eq_false_iff_ne]; exact fun h => hyx h.symm
        have h2 : (x = y) = False := eq_false fun h => hyx h.symm
        clear hyx
        go_wp2
        go_roundw
        case rel => exact ⟨i + 1, by omega, by go_num, HI.out, trivial⟩
        case measure => simp [vInt]; omega
    · have hil' : ((i : Int) < l.length) = False := eq_false (by omega)
      have he : hasB l x = false := by
        unfold hasB
        cases hc : l.contains x with
        | false => rfl
        | true =>
          rw [List.contains_iff_mem] at hc
          obtain ⟨j, hj, hjx⟩ := List.getElem_of_mem hc
          exact absurd hjx (HT.out j hj (by omega))
      have HE := Lib.hid he; clear he
      go_wp2
      go_ret
      exact ⟨⟨-1, rfl, by rw [HE.out]; simp⟩, rfl⟩
theorem contains_any (l : List Int) (x : Int) (s : Option Addr) (ca : Nat) (w : World) (hl : Sz w (.slice s l.length ca) l.length (intsI l)) (hn : l.length < 4611686018427387904) :
    Calls Try.prog 43 #[.slice s l.length ca, .int .i64 x] w fun e w' => e = .returned (.bool (hasB l x)) ∧ w' = w := by
  have h := index_any l x s ca w hl hn
  obtain ⟨b, hb⟩ : ∃ b, b = hasB l x := ⟨_, rfl⟩
  rw [← hb] at h ⊢
  have H := Lib.hid h; clear h hb hl
  go_enter Try.func43, Try.ntmps43
  go_wp2_with (fail)
  refine H.out.mono ?_
  rintro e w2 ⟨⟨z, rfl, hz⟩, h⟩
  have h2 := h.symm; clear h; subst h2
  cases b with
  | true =>
    have h1 : 0 ≤ z := hz.2 rfl
    clear hz
    go_wp2
    go_ret
    exact ⟨rfl, rfl⟩
  | false =>
    have h1 : (0 ≤ z) = False := eq_false fun h => by have := hz.1 h; cases this
    clear hz
    go_wp2
    go_ret
    exact ⟨rfl, rfl⟩
end Go.Proofs.Ytnkinjilnccmfaa
/- order: the program's closure that takes a tree off a list. -/
namespace Go.Order
open Go.RowKit Go.Own Go.Proofs.Ytnkinjilnccmfaa
def inB (may : List Spl) (x : Spl) : Bool := may.any fun y => x.eqv y
/-- how many splits a tree of s takes at the beginning of a list -/
def tak (may : List Spl) (st : List Int) : Nat → Int → List Spl → Option Nat
  | 0, _, _ => none
  | n + 1, s, l =>
    if hasB st s then
      if siz s = 1 then some 0 else
      match l with
      | [] => none
      | x :: r =>
        if x.w = s ∧ inB may x = true then
          match tak may st n x.p r with
          | none => none
          | some a =>
            match tak may st n x.rest (r.drop a) with
            | none => none
            | some b => some (1 + a + b)
        else none
    else none
def costL (l : List Spl) : Nat := (l.map Spl.cost).sum
theorem cost_le (x : Spl) : x.cost ≤ 16 := by unfold Spl.cost; have := siz_le x.p; omega
theorem costL_app (a b : List Spl) : costL (a ++ b) = costL a + costL b := by unfold costL; rw [List.map_append, List.sum_append]
theorem costL_le (l : List Spl) : costL l ≤ 16 * l.length := by
  induction l with
  | nil => exact Nat.le_refl _
  | cons x l ih => have := cost_le x; have e : costL (x :: l) = x.cost + costL l := by unfold costL; rw [List.map_cons, List.sum_cons]
                   rw [e, List.length_cons]; omega
theorem tak_le {may : List Spl} {st : List Int} : ∀ {n : Nat} {s : Int} {l : List Spl} {k : Nat}, tak may st n s l = some k → k ≤ l.length := by
  intro n
  induction n with
  | zero => intro s l k h; cases h
  | succ n ih =>
    intro s l k h
    unfold tak at h
    split at h
    · split at h
      · cases h; exact Nat.zero_le _
      · cases l with
        | nil => cases h
        | cons x r =>
          dsimp only at h
          split at h
          · cases ha : tak may st n x.p r with
            | none => rw [ha] at h; cases h
            | some a =>
              rw [ha] at h
              dsimp only at h
              cases hb : tak may st n x.rest (r.drop a) with
              | none => rw [hb] at h; cases h
              | some b =>
                rw [hb] at h
                cases h
                have h1 := ih ha
                have h2 := ih hb
                rw [List.length_drop] at h2
                rw [List.length_cons]; omega
          · cases h
    · cases h
theorem eqv_wp {x y : Spl} (h : x.eqv y = true) : x.w = y.w ∧ x.p = y.p := by
  unfold Spl.eqv at h
  simp only [Bool.and_eq_true, beq_iff_eq] at h
  exact h.1.1
theorem inB_ok {may : List Spl} (hm : may.all Spl.ok = true) {x : Spl} (h : inB may x = true) : x.ok = true := by
  unfold inB at h
  obtain ⟨y, hy, he⟩ := List.any_eq_true.1 h
  have h1 := List.all_eq_true.1 hm y hy
  obtain ⟨e1, e2⟩ := eqv_wp he
  unfold Spl.ok at h1 ⊢
  rw [e1, e2]; exact h1
/-- the parts of a split are less -/
theorem ok_parts {x : Spl} (h : x.ok = true) : ∃ w p r : Nat, x.w = w ∧ x.p = p ∧ x.rest = r ∧ p < w ∧ r < w ∧ w < 65536 ∧ 1 ≤ p ∧ 1 ≤ r := by
  obtain ⟨w, p, h1, h2, o⟩ := x.ok_iff.1 h
  have e3 : x.rest = ((w - p : Nat) : Int) := by unfold Spl.rest; rw [h1, h2]; exact rsti_nat o.w6 (by have := o.pw; have := o.w6; dsimp only at *; omega) o.sb
  have a1 := o.pw
  have a2 := o.p1
  have a3 := o.w6
  dsimp only at a1 a2 a3
  exact ⟨w, p, w - p, h1, h2, e3, by omega, by omega, by omega, by omega, by omega⟩
/-- after a list's first a elements -/
theorem drop_at {l : List Spl} {a : Nat} (h : a < l.length) : l.drop a = l[a] :: l.drop (a + 1) := by rw [List.drop_eq_getElem_cons h]
def takRes (may l : List Spl) (st : List Int) (n : Nat) (s : Int) (a z : Nat) (b : Bool) (a' z' : Nat) : Prop :=
  match tak may st n s (l.drop a) with
  | none => b = false
  | some k => b = true ∧ a' = a + k ∧ z' = z + costL ((l.drop a).take k)
theorem takRes_true {may l : List Spl} {st : List Int} {n : Nat} {s : Int} {a z a' z' : Nat} (h : takRes may l st n s a z true a' z') : ∃ k, tak may st n s (l.drop a) = some k ∧ a' = a + k ∧ z' = z + costL ((l.drop a).take k) := by
  unfold takRes at h
  split at h
  · cases h
  · rename_i k hk; exact ⟨k, hk, h.2.1, h.2.2⟩
theorem takRes_false {may l : List Spl} {st : List Int} {n : Nat} {s : Int} {a z a' z' : Nat} (h : takRes may l st n s a z false a' z') : tak may st n s (l.drop a) = none := by
  unfold takRes at h
  split at h
  · assumption
  · exact absurd h.1 (by decide)
theorem takRes_no {may l : List Spl} {st : List Int} {n : Nat} {s : Int} {a z a' z' : Nat} (h : tak may st n s (l.drop a) = none) : takRes may l st n s a z false a' z' := by
  unfold takRes; rw [h]
theorem takRes_some {may l : List Spl} {st : List Int} {n : Nat} {s : Int} {a z a' z' k : Nat} (h : tak may st n s (l.drop a) = some k) (h1 : a' = a + k) (h2 : z' = z + costL ((l.drop a).take k)) : takRes may l st n s a z true a' z' := by
  unfold takRes; rw [h]; exact ⟨rfl, h1, h2⟩
theorem tak_step {may : List Spl} {st : List Int} {n : Nat} {s : Int} {l : List Spl} {a : Nat} (hs : hasB st s = true) (h1 : siz s ≠ 1) (ha : a < l.length) :
    tak may st (n + 1) s (l.drop a) = if l[a].w = s ∧ inB may l[a] = true then
          match tak may st n l[a].p (l.drop (a + 1)) with
          | none => none
          | some c =>
            match tak may st n l[a].rest (l.drop (a + 1 + c)) with
            | none => none
            | some b => some (1 + c + b)
        else none := by
  conv => lhs; rw [drop_at ha]; unfold tak
  rw [if_pos hs, if_neg h1]
  dsimp only
  split
  · cases hc : tak may st n l[a].p (l.drop (a + 1)) with
    | none => rfl
    | some c =>
      dsimp only
      rw [List.drop_drop]
  · rfl
theorem tak_two {may : List Spl} {st : List Int} {n : Nat} {s : Int} {l : List Spl} {a z c d : Nat} (hs : hasB st s = true) (h1 : siz s ≠ 1) (ha : a < l.length) (hw : l[a].w = s) (hin : inB may l[a] = true)
    (hc : tak may st n l[a].p (l.drop (a + 1)) = some c) (hd : tak may st n l[a].rest (l.drop (a + 1 + c)) = some d) :
    takRes may l st (n + 1) s a z true (a + 1 + c + d) (z + l[a].cost + costL ((l.drop (a + 1)).take c) + costL ((l.drop (a + 1 + c)).take d)) := by
  refine takRes_some (k := 1 + c + d) ?_ (by omega) ?_
  · rw [tak_step hs h1 ha, if_pos ⟨hw, hin⟩, hc]; dsimp only; rw [hd]
  · rw [drop_at ha, show 1 + c + d = (c + d) + 1 by omega, List.take_succ_cons]
    have e : costL (l[a] :: (l.drop (a + 1)).take (c + d)) = l[a].cost + costL ((l.drop (a + 1)).take (c + d)) := by unfold costL; rw [List.map_cons, List.sum_cons]
    rw [e, List.take_add, costL_app, List.drop_drop]
    omega
end Go.Order
namespace Go.Proofs.Ytnkinjilnccmfaa
open Go.RowKit Go.Own Go.BigFrame Go.Big Go.Order
/-- what take needs, and what stays -/
structure TkS (V : World) (may l : List Spl) (st : List Int) (s t u : Option Addr) (ca cb cc gst gl gmay gat gsum gtk : Nat) : Prop where
  may' : Lst V (.slice s may.length ca) may
  st' : Sz V (.slice t st.length cb) st.length (intsI st)
  l' : Lst V (.slice u l.length cc) l
  cst : V.cell? ⟨gst, 0, none⟩ = some (.slice t st.length cb)
  cl : V.cell? ⟨gl, 0, none⟩ = some (.slice u l.length cc)
  cmay : V.cell? ⟨gmay, 0, none⟩ = some (.slice s may.length ca)
  vat : V.heap.size ≤ gat
  vsum : V.heap.size ≤ gsum
  vtk : V.heap.size ≤ gtk
  n1 : gat ≠ gsum
  n2 : gtk ≠ gat
  n3 : gtk ≠ gsum
  ok : may.all Spl.ok = true
  nm : may.length < 1000000
  ns : st.length < 1000000
  nl : l.length < 1000000
abbrev tkv (gst gl gmay gat gsum gtk : Nat) : Value := .func (.func 42) #[] #[.pointer (some ⟨gst, 0, none⟩), .pointer (some ⟨gat, 0, none⟩), .pointer (some ⟨gl, 0, none⟩), .pointer (some ⟨gsum, 0, none⟩), .pointer (some ⟨gmay, 0, none⟩), .pointer (some ⟨gtk, 0, none⟩)]
/-- how far it is -/
structure TkW (V w : World) (gst gl gmay gat gsum gtk a z : Nat) : Prop where
  below : Below V.heap.size V w
  bat : Blk w gat [.int .i64 (a : Int)] 3
  bsum : Blk w gsum [.int .i64 (z : Int)] 3
  ctk : w.cell? ⟨gtk, 0, none⟩ = some (tkv gst gl gmay gat gsum gtk)
theorem TkW.low {V w w' : World} {gst gl gmay gat gsum gtk a z : Nat} (h : TkW V w gst gl gmay gat gsum gtk a z) (hb : Below w.heap.size w w') : TkW V w' gst gl gmay gat gsum gtk a z :=
  ⟨h.below.trans (hb.mono h.below.size), h.bat.below hb h.bat.lt, h.bsum.below hb h.bsum.lt, (hb.cell (p := ⟨gtk, 0, none⟩) (World.block_lt_of_cell? _ _ h.ctk)).trans h.ctk⟩
theorem infoInt1 : (Try.prog.info? 3).map (·.size) = some 1 := by kernel_rfl
structure TkQ (V : World) (may l : List Spl) (st : List Int) (gst gl gmay gat gsum gtk n m a z : Nat) (w : World) (e : Ending) (w' : World) : Prop where
  out : ∃ b a' z', e = .returned (.bool b) ∧ Chg [gat, gsum] w w' ∧ a' ≤ l.length ∧ z' ≤ 16 * a' ∧ TkW V w' gst gl gmay gat gsum gtk a' z' ∧ takRes may l st n (m : Int) a z b a' z'
attribute [local irreducible] SqC.SqW
set_option maxRecDepth 100000 in
set_option maxHeartbeats 6400000 in
theorem take_any {V : World} {may l : List Spl} {st : List Int} {s t u : Option Addr} {ca cb cc gst gl gmay gat gsum gtk : Nat} (S : TkS V may l st s t u ca cb cc gst gl gmay gat gsum gtk) :
    ∀ (n m : Nat), m < n → ∀ (w : World) (a z : Nat), a ≤ l.length → z ≤ 16 * a → TkW V w gst gl gmay gat gsum gtk a z →
    Calls Try.prog 42 #[.int .i64 (m : Int), .pointer (some ⟨gst, 0, none⟩), .pointer (some ⟨gat, 0, none⟩), .pointer (some ⟨gl, 0, none⟩), .pointer (some ⟨gsum, 0, none⟩), .pointer (some ⟨gmay, 0, none⟩), .pointer (some ⟨gtk, 0, none⟩)] w fun e w' => TkQ V may l st gst gl gmay gat gsum gtk n m a z w e w' := by
  intro n
  induction n with
  | zero => intro m hm; omega
  | succ n ih =>
  intro m hm w a z hal hza hw
  have hcst : w.cell? ⟨gst, 0, none⟩ = some (.slice t st.length cb) := (hw.below.cell (p := ⟨gst, 0, none⟩) (World.block_lt_of_cell? _ _ S.cst)).trans S.cst
  have hcl : w.cell? ⟨gl, 0, none⟩ = some (.slice u l.length cc) := (hw.below.cell (p := ⟨gl, 0, none⟩) (World.block_lt_of_cell? _ _ S.cl)).trans S.cl
  have hcat : w.cell? ⟨gat, 0, none⟩ = some (.int .i64 (a : Int)) := hw.bat.cell rfl
  have hct := contains_any st (m : Int) t cb w (S.st'.below hw.below) (by have := S.ns; omega)
  have hsz := size_any (m : Int) w
  have hnl := S.nl
  have hnl2 : (l.length : Int) < 4611686018427387904 := by omega
  have hal2 : (a : Int) ≤ l.length := by omega
  have hK0 : Chg [gat, gsum] w w := Chg.refl _ _
  obtain ⟨b1, hb1⟩ : ∃ b, b = hasB st (m : Int) := ⟨_, rfl⟩
  obtain ⟨q, hq⟩ : ∃ q, q = siz (m : Int) := ⟨_, rfl⟩
  rw [← hb1] at hct
  rw [← hq] at hsz
  have HCT := Lib.hid hct; clear hct
  have HSZ := Lib.hid hsz; clear hsz
  have HB1 := Lib.hid hb1; clear hb1
  have HQ := Lib.hid hq; clear hq
  have HW := Lib.hid hw; clear hw
  have HS := Lib.hid S; clear S
  have IH := Lib.hid ih; clear ih
  have HZA := Lib.hid hza; clear hza
  have HAL := Lib.hid hal
  have HNL := Lib.hid hnl; clear hnl
  cases b1 with
  | false =>
    have hr : takRes may l st (n + 1) (m : Int) a z false a z := takRes_no (by unfold tak; rw [← HB1.out]; rfl)
    have HR := Lib.hid hr; clear hr
    go_enter Try.func42, Try.ntmps42
    go_wp2_with (fail)
    refine HCT.out.mono ?_
    rintro e w2 ⟨rfl, h⟩
    have h2 := h.symm; clear h; subst h2
    go_wp2
    go_ret
    exact ⟨⟨false, a, z, rfl, hK0, HAL.out, HZA.out, HW.out, HR.out⟩⟩
  | true =>
  by_cases hq1 : q = 1
  · have e1 : (q : Int) = 1 := by omega
    have e2 : ((q : Int) == 1) = true := by rw [e1]; rfl
    have hr : takRes may l st (n + 1) (m : Int) a z true a z := takRes_some (k := 0) (by unfold tak; rw [← HB1.out, if_pos rfl, if_pos (by rw [← HQ.out]; exact hq1)]) rfl rfl
    have HR := Lib.hid hr; clear hr
    have e3 : ((q : Int) = 1) = True := eq_true e1
    clear e1 hq1
    go_enter Try.func42, Try.ntmps42
    go_wp2_with (fail)
    refine HCT.out.mono ?_
    rintro e w2 ⟨rfl, h⟩
    have h2 := h.symm; clear h; subst h2
    go_wp2_with (fail)
    refine HSZ.out.mono ?_
    rintro e w2 ⟨rfl, h⟩
    have h2 := h.symm; clear h; subst h2
    go_wp2
    go_ret
    exact ⟨⟨true, a, z, rfl, hK0, HAL.out, HZA.out, HW.out, HR.out⟩⟩
  · have e2 : ((q : Int) == 1) = false := by rw [beq_eq_false_iff_ne]; omega
    have e3 : ((q : Int) = 1) = False := eq_false (by omega)
    have HQ1 := Lib.hid hq1; clear hq1
    by_cases hae : a = l.length
    · have f1 : ((a : Int) == l.length) = true := by rw [hae]; simp
      have f2 : ((a : Int) = l.length) = True := eq_true (by omega)
      have hr : takRes may l st (n + 1) (m : Int) a z false a z := takRes_no (by unfold tak; rw [← HB1.out, if_pos rfl, if_neg (by rw [← HQ.out]; exact HQ1.out), List.drop_of_length_le (by omega)])
      have HR := Lib.hid hr; clear hr hae hal
      go_enter Try.func42, Try.ntmps42
      go_wp2_with (fail)
      refine HCT.out.mono ?_
      rintro e w2 ⟨rfl, h⟩
      have h2 := h.symm; clear h; subst h2
      go_wp2_with (fail)
      refine HSZ.out.mono ?_
      rintro e w2 ⟨rfl, h⟩
      have h2 := h.symm; clear h; subst h2
      go_wp2
      go_ret
      exact ⟨⟨false, a, z, rfl, hK0, HAL.out, HZA.out, HW.out, HR.out⟩⟩
    · have f1 : ((a : Int) == l.length) = false := by rw [beq_eq_false_iff_ne]; omega
      have f2 : ((a : Int) = l.length) = False := eq_false (by omega)
      have hil : a < l.length := by omega
      have hil' : (a : Int) < l.length := by omega
      clear hae hal hal2
      obtain ⟨g, o, rfl, -, -, -, hC0, hg0⟩ := (HS.out.l'.below HW.out.below).at (by omega)
      have cA := Lst.cells hC0 hil
      obtain ⟨x, hx⟩ : ∃ x, x = l[a] := ⟨_, rfl⟩
      have hxAt : x.At w := by rw [hx]; exact (HS.out.l'.below HW.out.below).at' _ (List.getElem_mem hil)
      rw [← hx] at cA
      by_cases hxm : x.w = m
      · have hxV : x.At V := by rw [hx]; exact HS.out.l'.at' _ (List.getElem_mem hil)
        have hhas : ∀ U : World, Below V.heap.size V U → Cells U w.heap.size 0 x.cells → w.heap.size < U.heap.size → Calls Try.prog 47 #[.slice s may.length ca, (.func (.func 45) #[] #[.pointer (some ⟨w.heap.size, 0, none⟩)])] U fun e w' => e = .returned (.bool (inB may x)) ∧ Below U.heap.size U w' := fun U hU hc hl =>
          hasSame_any may (fun y => x.eqv y) w.heap.size s ca U (HS.out.may'.below hU) (by have := HS.out.nm; omega) (fun y hy Z hZ => esame_any x y w.heap.size Z (hxV.below (hU.trans (hZ.mono hU.size))) (((HS.out.may'.below hU).at' y hy).below hZ) (hc.below hZ hl) (Nat.lt_of_lt_of_le hl hZ.size))
        have hpr : inB may x = true → ∃ p r : Nat, x.p = p ∧ x.rest = r ∧ p < n ∧ r < n := fun h => by
          obtain ⟨w', p, r, e1, e2, e3, q1, q2, _⟩ := ok_parts (inB_ok HS.out.ok h)
          exact ⟨p, r, e2, e3, by omega, by omega⟩
        have hstp := tak_step (may := may) (n := n) (by rw [← HB1.out]) (by rw [← HQ.out]; exact HQ1.out : siz (m : Int) ≠ 1) hil
        have hno0 : inB may x = false → ∀ a' z', takRes may l st (n + 1) (m : Int) a z false a' z' := fun h a' z' => takRes_no (by rw [hstp, if_neg (by rw [← hx, h]; exact fun h => absurd h.2 (by decide))])
        have hno1 : inB may x = true → tak may st n x.p (l.drop (a + 1)) = none → ∀ a' z', takRes may l st (n + 1) (m : Int) a z false a' z' := fun h hn a' z' => takRes_no (by rw [hstp, if_pos (by rw [← hx]; exact ⟨hxm, h⟩), ← hx, hn])
        have hno2 : inB may x = true → ∀ c, tak may st n x.p (l.drop (a + 1)) = some c → tak may st n x.rest (l.drop (a + 1 + c)) = none → ∀ a' z', takRes may l st (n + 1) (m : Int) a z false a' z' := fun h c hc hn a' z' => takRes_no (by rw [hstp, if_pos (by rw [← hx]; exact ⟨hxm, h⟩), ← hx, hc]; dsimp only; rw [hn])
        have hyes : inB may x = true → ∀ c d, tak may st n x.p (l.drop (a + 1)) = some c → tak may st n x.rest (l.drop (a + 1 + c)) = some d → takRes may l st (n + 1) (m : Int) a z true (a + 1 + c + d) (z + x.cost + costL ((l.drop (a + 1)).take c) + costL ((l.drop (a + 1 + c)).take d)) := fun h c d hc hd => by
          have := tak_two (may := may) (z := z) (by rw [← HB1.out]) (by rw [← HQ.out]; exact HQ1.out : siz (m : Int) ≠ 1) hil (by rw [← hx]; exact hxm) (by rw [← hx]; exact h) (by rw [← hx]; exact hc) (by rw [← hx]; exact hd)
          rwa [← hx] at this
        have hcost := cost_any x
        have hrest := rest_any x
        have hcle := cost_le x
        obtain ⟨C, hC⟩ : ∃ C, C = x.cost := ⟨_, rfl⟩
        obtain ⟨R, hR⟩ : ∃ R, R = x.rest := ⟨_, rfl⟩
        obtain ⟨B, hB⟩ : ∃ B, B = inB may x := ⟨_, rfl⟩
        rw [← hC] at hcost hcle hyes
        rw [← hR] at hrest hpr hno2 hyes
        rw [← hB] at hhas hpr hno0 hno1 hno2 hyes
        clear hC hR hB hstp hx hC0 hxAt hxV
        obtain ⟨xw, xp, ⟨na, da, sa, ya⟩, ⟨nb, db, sb, yb⟩, ⟨nc, dc, sc, yc⟩, ⟨nd, dd, sd, yd⟩⟩ := x
        dsimp only at hpr hno1 hno2 hyes hxm
        obtain rfl := hxm
        have hcost' : ∀ U : World, Calls Try.prog 23 #[.agg #[.int .i64 (m : Int), .int .i64 xp, .bool na, .slice sa da.length ya, .bool nb, .slice sb db.length yb, .bool nc, .slice sc dc.length yc, .bool nd, .slice sd dd.length yd]] U fun e w' => e = .returned (.int .i64 (C : Nat)) ∧ Below U.heap.size U w' := fun U => hcost U
        have hrest' : ∀ U : World, Calls Try.prog 37 #[.agg #[.int .i64 (m : Int), .int .i64 xp, .bool na, .slice sa da.length ya, .bool nb, .slice sb db.length yb, .bool nc, .slice sc dc.length yc, .bool nd, .slice sd dd.length yd]] U fun e w' => e = .returned (.int .i64 R) ∧ Below U.heap.size U w' := fun U => hrest U
        have k0 : w.cell? ⟨g, o + a * 10, none⟩ = some (.int .i64 (m : Int)) := cA 0 _ rfl
        have k1 : w.cell? ⟨g, o + a * 10 + 1, none⟩ = some (.int .i64 xp) := cA 1 _ rfl
        have k2 : w.cell? ⟨g, o + a * 10 + 2, none⟩ = some (.bool na) := cA 2 _ rfl
        have k3 : w.cell? ⟨g, o + a * 10 + 3, none⟩ = some (.slice sa da.length ya) := cA 3 _ rfl
        have k4 : w.cell? ⟨g, o + a * 10 + 4, none⟩ = some (.bool nb) := cA 4 _ rfl
        have k5 : w.cell? ⟨g, o + a * 10 + 5, none⟩ = some (.slice sb db.length yb) := cA 5 _ rfl
        have k6 : w.cell? ⟨g, o + a * 10 + 6, none⟩ = some (.bool nc) := cA 6 _ rfl
        have k7 : w.cell? ⟨g, o + a * 10 + 7, none⟩ = some (.slice sc dc.length yc) := cA 7 _ rfl
        have k8 : w.cell? ⟨g, o + a * 10 + 8, none⟩ = some (.bool nd) := cA 8 _ rfl
        have k9 : w.cell? ⟨g, o + a * 10 + 9, none⟩ = some (.slice sd dd.length yd) := cA 9 _ rfl
        clear hcost hrest cA
        obtain ⟨W1, hW1⟩ : ∃ W1, W1 = w.alloc (.cells #[.int .i64 (m : Int), .int .i64 xp, .bool na, .slice sa da.length ya, .bool nb, .slice sb db.length yb, .bool nc, .slice sc dc.length yc, .bool nd, .slice sd dd.length yd] 58) := ⟨_, rfl⟩
        have b1 : Below w.heap.size w W1 := by rw [hW1]; exact alloc_below _ _
        have hX1 : Blk W1 w.heap.size [.int .i64 (m : Int), .int .i64 xp, .bool na, .slice sa da.length ya, .bool nb, .slice sb db.length yb, .bool nc, .slice sc dc.length yc, .bool nd, .slice sd dd.length yd] 58 := by rw [hW1]; exact Blk.new w #[.int .i64 (m : Int), .int .i64 xp, .bool na, .slice sa da.length ya, .bool nb, .slice sb db.length yb, .bool nc, .slice sc dc.length yc, .bool nd, .slice sd dd.length yd] 58
        have w1 := HW.out.low b1
        have hgat := HW.out.bat.lt
        have hgsum := HW.out.bsum.lt
        have hn1 := HS.out.n1
        have hn2 := HS.out.n2
        have hn3 := HS.out.n3
        have at1 : W1.cell? ⟨gat, 0, none⟩ = some (.int .i64 (a : Int)) := w1.bat.cell rfl
        have AT1 := Lib.hid at1; clear at1
        have HHAS := Lib.hid hhas; clear hhas
        have HPR := Lib.hid hpr; clear hpr
        have NO0 := Lib.hid hno0; clear hno0
        have NO1 := Lib.hid hno1; clear hno1
        have NO2 := Lib.hid hno2; clear hno2
        have YES := Lib.hid hyes; clear hyes
        have HCO := Lib.hid hcost'; clear hcost'
        have HRE := Lib.hid hrest'; clear hrest'
        have HX1 := Lib.hid hX1; clear hX1
        have KW1 := Lib.hid w1; clear w1
        have HB1' := Lib.hid b1; clear b1
        have HW1 := Lib.hid hW1; clear hW1
        have HG := Lib.hid (And.intro hgat hgsum); clear hgat hgsum
        have HN := Lib.hid (And.intro hn1 (And.intro hn2 hn3)); clear hn1 hn2 hn3
        have HCLE := Lib.hid hcle; clear hcle
        go_enter Try.func42, Try.ntmps42
        go_wp2_with (fail)
        refine HCT.out.mono ?_
        rintro e w2 ⟨rfl, h⟩
        have h2 := h.symm; clear h; subst h2
        go_wp2_with (fail)
        refine HSZ.out.mono ?_
        rintro e w2 ⟨rfl, h⟩
        have h2 := h.symm; clear h; subst h2
        dsimp only
        iterate 76 go_step
        rw [← HW1.out]
        clear k0 k1 k2 k3 k4 k5 k6 k7 k8 k9 hcat hcst hcl
        have at1 := AT1.out
        iterate 19 go_step
        clear at1
        refine wpList_store1 (ty := 3) (v := .int .i64 ((a : Int) + 1)) KW1.out.bat rfl rfl rfl rfl rfl infoInt1 rfl (Nat.zero_lt_succ _) rfl ?_
        intro W2 s1 s2
        have s1' : Blk W2 gat [.int .i64 ((a + 1 : Nat) : Int)] 3 := by rw [show ((a + 1 : Nat) : Int) = (a : Int) + 1 by omega]; exact s1
        have hX2 : Blk W2 w.heap.size [.int .i64 (m : Int), .int .i64 xp, .bool na, .slice sa da.length ya, .bool nb, .slice sb db.length yb, .bool nc, .slice sc dc.length yc, .bool nd, .slice sd dd.length yd] 58 := s2.blk (by have := HG.out.1; omega) HX1.out
        have w2s : Blk W2 gsum [.int .i64 (z : Int)] 3 := s2.blk (fun h => HN.out.1 h.symm) KW1.out.bsum
        have w2b : Below V.heap.size V W2 := KW1.out.below.trans ((Chg.of_oth s2 (F := [gat]) (by simp)).below KW1.out.below.size (by have := HS.out.vat; simp; omega))
        have w2t : W2.cell? ⟨gtk, 0, none⟩ = some (tkv gst gl gmay gat gsum gtk) := (Chg.of_oth s2 (F := [gat]) (by simp)).cell KW1.out.ctk (by have := HN.out.2.1; simpa using this)
        have w2c : Chg [gat, gsum] w W2 := (Chg.of_below HB1'.out).trans (Chg.of_oth s2 (by simp))
        have HX2 := Lib.hid hX2; clear hX2
        have W2A := Lib.hid s1'; clear s1' s1
        have W2S := Lib.hid w2s; clear w2s
        have W2B := Lib.hid w2b; clear w2b
        have W2T := Lib.hid w2t; clear w2t
        have W2C := Lib.hid w2c; clear w2c s2
        have hs0 : ∀ U, Below W2.heap.size W2 U → U.cell? ⟨gsum, 0, none⟩ = some (.int .i64 (z : Int)) := fun U hU => (W2S.out.below hU W2S.out.lt).cell rfl
        have hld : ∀ U, Below W2.heap.size W2 U → (loadVar 58 ⟨w.heap.size, 0, none⟩).run Try.prog U = .ok (.agg #[.int .i64 (m : Int), .int .i64 xp, .bool na, .slice sa da.length ya, .bool nb, .slice sb db.length yb, .bool nc, .slice sc dc.length yc, .bool nd, .slice sd dd.length yd]) U := fun U hU =>
          run_load_agg (P := Try.prog) (ty := 58) (HX2.out.below hU HX2.out.lt).cells0 aggS infoS
        have HS0 := Lib.hid hs0; clear hs0
        have HLD := Lib.hid hld; clear hld
        go_wp2
        have eX : Below W2.heap.size W2 W2.drew := (Below.refl _ _).drew
        haveI : Nonempty (SqC.Come fun U : World => Below W2.heap.size W2 U) := ⟨⟨_, eX⟩⟩
        refine SqC.wp_region_sqc 5 [2, 4] (fun U : World => Below W2.heap.size W2 U) (by kernel_rfl) (by kernel_rfl) (by kernel_rfl) eX ?_
        obtain ⟨wd, hwd⟩ : ∃ wd : World, wd = W2.drew := ⟨_, rfl⟩
        rw [← hwd] at eX ⊢
        clear hwd
        refine SqC.value (.int .i64 (z : Int)) rfl rfl (by intro U hU; have cx := HS0.out U hU; go_simp) ?_
        simp only [Act.put, List.setIfInBounds_toArray, List.set_cons_zero, List.set_cons_succ]
        refine SqC.value (.agg #[.int .i64 (m : Int), .int .i64 xp, .bool na, .slice sa da.length ya, .bool nb, .slice sb db.length yb, .bool nc, .slice sc dc.length yc, .bool nd, .slice sd dd.length yd]) rfl rfl (fun U hU => load_agg_exec rfl rfl (HLD.out U hU)) ?_
        simp only [Act.put, List.setIfInBounds_toArray, List.set_cons_zero, List.set_cons_succ]
        refine SqC.effect rfl rfl ?_
        refine yields_call rfl (by kernel_rfl) rfl rfl ((HCO.out wd).mono ?_)
        rintro e w5 ⟨rfl, b5⟩
        have e5 : Below W2.heap.size W2 w5 := eX.trans (b5.mono eX.size)
        refine ⟨_, rfl, fun _ => e5, ?_⟩
        simp only [Act.put, List.setIfInBounds_toArray, List.set_cons_zero, List.set_cons_succ]
        have hzc : ((z + C : Nat) : Int) = (z : Int) + (C : Int) := by omega
        have hz5 : (z : Int) + (C : Int) ≤ 16000016 := by have := HZA.out; have := HAL.out; have := HNL.out; have := HCLE.out; omega
        have HZC := Lib.hid hzc; clear hzc
        have bs5 : Blk w5 gsum [.int .i64 (z : Int)] 3 := W2S.out.below e5 W2S.out.lt
        refine SqC.quiet rfl rfl ?_; go_big_quiet_step (fail); refine wpQuiet_nil ?_
        refine SqC.effectW rfl rfl ?_
        refine wpList_store1 (ty := 3) (v := .int .i64 ((z : Int) + (C : Int))) bs5 rfl rfl rfl rfl rfl infoInt1 rfl (Nat.zero_lt_succ _) rfl ?_
        intro W4 s1 s2
        have w4s : Blk W4 gsum [.int .i64 ((z + C : Nat) : Int)] 3 := by rw [HZC.out]; exact s1
        have c54 : Chg [gsum] w5 W4 := Chg.of_oth s2 (by simp)
        have hX4 := (HX2.out.below e5 HX2.out.lt).chg c54 (by have := HG.out.2; simp; omega)
        have w4a := (W2A.out.below e5 W2A.out.lt).chg c54 (by have := HN.out.1; simpa using this)
        have w4t : W4.cell? ⟨gtk, 0, none⟩ = some (tkv gst gl gmay gat gsum gtk) := c54.cell ((e5.cell (p := ⟨gtk, 0, none⟩) (World.block_lt_of_cell? _ _ W2T.out)).trans W2T.out) (by have := HN.out.2.2; simpa using this)
        have w4b : Below V.heap.size V W4 := (W2B.out.trans (e5.mono W2B.out.size)).trans (c54.below (W2B.out.trans (e5.mono W2B.out.size)).size (by have := HS.out.vsum; simp; omega))
        have w4 : TkW V W4 gst gl gmay gat gsum gtk (a + 1) (z + C) := ⟨w4b, w4a, w4s, w4t⟩
        have w4c : Chg [gat, gsum] w W4 := W2C.out.trans ((Chg.of_below e5).trans (c54.mono (by simp)))
        have hgx4 : w.heap.size < W4.heap.size := hX4.lt
        have HX4 := Lib.hid hX4; clear hX4
        have KW4 := Lib.hid w4; clear w4 w4a w4t w4b w4s
        have W4C := Lib.hid w4c; clear w4c c54 s1 s2 bs5 e5 b5
        clear hz5
        go_wp2
        refine SqC.here rfl (by intro h; first | exact h.elim | exact absurd rfl h) (SqC.nil ?_)
        clear eX this
        clear wd
        have hcells : ∀ U, Chg [gat, gsum] W4 U → Blk U w.heap.size [.int .i64 (m : Int), .int .i64 xp, .bool na, .slice sa da.length ya, .bool nb, .slice sb db.length yb, .bool nc, .slice sc dc.length yc, .bool nd, .slice sd dd.length yd] 58 ∧ U.cell? ⟨w.heap.size, 1, none⟩ = some (.int .i64 xp) ∧ U.cell? ⟨gmay, 0, none⟩ = some (.slice s may.length ca) ∧ U.cell? ⟨gtk, 0, none⟩ = some (tkv gst gl gmay gat gsum gtk) ∧ Below V.heap.size V U := fun U hU => by
          have hb : Below V.heap.size V U := KW4.out.below.trans (hU.below KW4.out.below.size (by have := HS.out.vat; have := HS.out.vsum; simp; omega))
          have hk : Blk U w.heap.size [.int .i64 (m : Int), .int .i64 xp, .bool na, .slice sa da.length ya, .bool nb, .slice sb db.length yb, .bool nc, .slice sc dc.length yc, .bool nd, .slice sd dd.length yd] 58 := HX4.out.chg hU (by have := HG.out; simp; omega)
          exact ⟨hk, hk.cell rfl, (hb.cell (p := ⟨gmay, 0, none⟩) (World.block_lt_of_cell? _ _ HS.out.cmay)).trans HS.out.cmay, hU.cell KW4.out.ctk (by have := HN.out.2; simp; omega), hb⟩
        have hld4 : ∀ U, Chg [gat, gsum] W4 U → (loadVar 58 ⟨w.heap.size, 0, none⟩).run Try.prog U = .ok (.agg #[.int .i64 (m : Int), .int .i64 xp, .bool na, .slice sa da.length ya, .bool nb, .slice sb db.length yb, .bool nc, .slice sc dc.length yc, .bool nd, .slice sd dd.length yd]) U := fun U hU =>
          run_load_agg (P := Try.prog) (ty := 58) (hcells U hU).1.cells0 aggS infoS
        have HCE := Lib.hid hcells; clear hcells
        have HL4 := Lib.hid hld4; clear hld4
        go_wp2
        have eX : Chg [gat, gsum] W4 W4.drew := (Chg.refl _ _).drew
        haveI : Nonempty (SqC.Come fun U : World => Chg [gat, gsum] W4 U) := ⟨⟨_, eX⟩⟩
        refine SqC.wp_region_sqc 16 [2, 7, 12, 13] (fun U : World => Chg [gat, gsum] W4 U) (by kernel_rfl) (by kernel_rfl) (by kernel_rfl) eX ?_
        have k0 := KW4.out.low ((Below.refl W4.heap.size W4).drew)
        have hgd : w.heap.size < W4.drew.heap.size := hgx4
        obtain ⟨wd, hwd⟩ : ∃ wd : World, wd = W4.drew := ⟨_, rfl⟩
        rw [← hwd] at eX k0 hgd ⊢
        clear hwd
        have K0 := Lib.hid k0; clear k0
        refine SqC.value (.slice s may.length ca) rfl rfl (by intro U hU; have cx := (HCE.out U hU).2.2.1; go_simp) ?_
        simp only [Act.put, List.setIfInBounds_toArray, List.set_cons_zero, List.set_cons_succ]
        refine SqC.quiet rfl rfl ?_; go_big_quiet_step (fail); refine wpQuiet_nil ?_
        refine SqC.effect rfl rfl ?_
        refine yields_call rfl (by kernel_rfl) rfl rfl ((HHAS.out wd (HCE.out wd eX).2.2.2.2 (HCE.out wd eX).1.cells0 hgd).mono ?_)
        rintro e w5 ⟨rfl, b5⟩
        have e5 : Chg [gat, gsum] W4 w5 := eX.trans (Chg.of_below b5)
        refine ⟨_, rfl, fun _ => e5, ?_⟩
        simp only [Act.put, List.setIfInBounds_toArray, List.set_cons_zero, List.set_cons_succ]
        have k5 := K0.out.low b5
        have K5 := Lib.hid k5; clear k5 b5
        cases B with
        | false =>
          refine SqC.quiet rfl rfl ?_; go_big_quiet_step (fail); refine wpQuiet_nil ?_
          refine SqC.skip rfl ?_
          simp only [Act.put, List.setIfInBounds_toArray, List.set_cons_zero, List.set_cons_succ]
          refine SqC.skip rfl ?_
          simp only [Act.put, List.setIfInBounds_toArray, List.set_cons_zero, List.set_cons_succ]
          refine SqC.skip rfl ?_
          simp only [Act.put, List.setIfInBounds_toArray, List.set_cons_zero, List.set_cons_succ]
          refine SqC.skip rfl ?_
          simp only [Act.put, List.setIfInBounds_toArray, List.set_cons_zero, List.set_cons_succ]
          refine SqC.quiet rfl rfl ?_; go_big_quiet_step (fail); refine wpQuiet_nil ?_
          refine SqC.quiet rfl rfl ?_; go_big_quiet_step (fail); refine wpQuiet_nil ?_
          refine SqC.skip rfl ?_
          simp only [Act.put, List.setIfInBounds_toArray, List.set_cons_zero, List.set_cons_succ]
          refine SqC.skip rfl ?_
          simp only [Act.put, List.setIfInBounds_toArray, List.set_cons_zero, List.set_cons_succ]
          refine SqC.skip rfl ?_
          simp only [Act.put, List.setIfInBounds_toArray, List.set_cons_zero, List.set_cons_succ]
          refine SqC.skip rfl ?_
          simp only [Act.put, List.setIfInBounds_toArray, List.set_cons_zero, List.set_cons_succ]
          refine SqC.quiet rfl rfl ?_; go_big_quiet_step (fail); refine wpQuiet_nil ?_
          refine SqC.quiet rfl rfl ?_; go_big_quiet_step (fail); refine wpQuiet_nil ?_
          refine SqC.nil ?_
          go_wp2
          go_ret
          exact ⟨⟨false, a + 1, z + C, rfl, W4C.out.trans e5, by omega, by have := HZA.out; have := HCLE.out; omega, K5.out, NO0.out (by first | rfl | trivial) _ _⟩⟩
        | true =>
          obtain ⟨p, r, rfl, rfl, hpn, hrn⟩ := HPR.out rfl
          refine SqC.quiet rfl rfl ?_; go_big_quiet_step (fail); refine wpQuiet_nil ?_
          refine SqC.value (tkv gst gl gmay gat gsum gtk) rfl rfl (by intro U hU; have cx := (HCE.out U hU).2.2.2.1; go_simp) ?_
          simp only [Act.put, List.setIfInBounds_toArray, List.set_cons_zero, List.set_cons_succ]
          refine SqC.quiet rfl rfl ?_; go_big_quiet_step (fail); refine wpQuiet_nil ?_
          refine SqC.value (.int .i64 (p : Int)) rfl rfl (by intro U hU; have cx := (HCE.out U hU).2.1; go_simp) ?_
          simp only [Act.put, List.setIfInBounds_toArray, List.set_cons_zero, List.set_cons_succ]
          refine SqC.effect rfl rfl ?_
          refine yields_closure (f := 42) (lb := #[.pointer (some ⟨gst, 0, none⟩), .pointer (some ⟨gat, 0, none⟩), .pointer (some ⟨gl, 0, none⟩), .pointer (some ⟨gsum, 0, none⟩), .pointer (some ⟨gmay, 0, none⟩), .pointer (some ⟨gtk, 0, none⟩)]) (args := #[.int .i64 ((p : Nat) : Int)]) rfl (by kernel_rfl) rfl rfl ((IH.out p hpn w5 (a + 1) (z + C) (by omega) (by have := HZA.out; have := HCLE.out; omega) K5.out).mono ?_)
          rintro e w6 ⟨⟨b6, a6, z6, rfl, c6, ha6, hz6, k6, r6⟩⟩
          have e6 : Chg [gat, gsum] W4 w6 := e5.trans c6
          refine ⟨_, rfl, fun _ => e6, ?_⟩
          simp only [Act.put, List.setIfInBounds_toArray, List.set_cons_zero, List.set_cons_succ]
          have K6 := Lib.hid k6; clear k6
          have R6 := Lib.hid r6; clear r6
          have HZ6 := Lib.hid hz6; clear hz6
          cases b6 with
          | false =>
            refine SqC.quiet rfl rfl ?_; go_big_quiet_step (fail); refine wpQuiet_nil ?_
            refine SqC.quiet rfl rfl ?_; go_big_quiet_step (fail); refine wpQuiet_nil ?_
            refine SqC.skip rfl ?_
            simp only [Act.put, List.setIfInBounds_toArray, List.set_cons_zero, List.set_cons_succ]
            refine SqC.skip rfl ?_
            simp only [Act.put, List.setIfInBounds_toArray, List.set_cons_zero, List.set_cons_succ]
            refine SqC.skip rfl ?_
            simp only [Act.put, List.setIfInBounds_toArray, List.set_cons_zero, List.set_cons_succ]
            refine SqC.skip rfl ?_
            simp only [Act.put, List.setIfInBounds_toArray, List.set_cons_zero, List.set_cons_succ]
            refine SqC.quiet rfl rfl ?_; go_big_quiet_step (fail); refine wpQuiet_nil ?_
            refine SqC.quiet rfl rfl ?_; go_big_quiet_step (fail); refine wpQuiet_nil ?_
            refine SqC.nil ?_
            go_wp2
            go_ret
            exact ⟨⟨false, a6, z6, rfl, W4C.out.trans e6, ha6, HZ6.out, K6.out, NO1.out (by first | rfl | trivial) (takRes_false R6.out) _ _⟩⟩
          | true =>
            obtain ⟨c, hc1, hc2, hc3⟩ := takRes_true R6.out
            have HC1 := Lib.hid hc1; clear hc1
            have HC2 := Lib.hid hc2; clear hc2
            have HC3 := Lib.hid hc3; clear hc3
            refine SqC.quiet rfl rfl ?_; go_big_quiet_step (fail); refine wpQuiet_nil ?_
            refine SqC.quiet rfl rfl ?_; go_big_quiet_step (fail); refine wpQuiet_nil ?_
            refine SqC.value (tkv gst gl gmay gat gsum gtk) rfl rfl (by intro U hU; have cx := (HCE.out U hU).2.2.2.1; go_simp) ?_
            simp only [Act.put, List.setIfInBounds_toArray, List.set_cons_zero, List.set_cons_succ]
            refine SqC.value (.agg #[.int .i64 (m : Int), .int .i64 (p : Int), .bool na, .slice sa da.length ya, .bool nb, .slice sb db.length yb, .bool nc, .slice sc dc.length yc, .bool nd, .slice sd dd.length yd]) rfl rfl (fun U hU => load_agg_exec rfl rfl (HL4.out U hU)) ?_
            simp only [Act.put, List.setIfInBounds_toArray, List.set_cons_zero, List.set_cons_succ]
            refine SqC.effect rfl rfl ?_
            refine yields_call rfl (by kernel_rfl) rfl rfl ((HRE.out w6).mono ?_)
            rintro e w7 ⟨rfl, b7⟩
            have e7 : Chg [gat, gsum] W4 w7 := e6.trans (Chg.of_below b7)
            refine ⟨_, rfl, fun _ => e7, ?_⟩
            simp only [Act.put, List.setIfInBounds_toArray, List.set_cons_zero, List.set_cons_succ]
            have k7 := K6.out.low b7
            have K7 := Lib.hid k7; clear k7 b7
            refine SqC.effect rfl rfl ?_
            refine yields_closure (f := 42) (lb := #[.pointer (some ⟨gst, 0, none⟩), .pointer (some ⟨gat, 0, none⟩), .pointer (some ⟨gl, 0, none⟩), .pointer (some ⟨gsum, 0, none⟩), .pointer (some ⟨gmay, 0, none⟩), .pointer (some ⟨gtk, 0, none⟩)]) (args := #[.int .i64 ((r : Nat) : Int)]) rfl (by kernel_rfl) rfl rfl ((IH.out r hrn w7 a6 z6 ha6 HZ6.out K7.out).mono ?_)
            rintro e w8 ⟨⟨b8, a8, z8, rfl, c8, ha8, hz8, k8, r8⟩⟩
            have e8 : Chg [gat, gsum] W4 w8 := e7.trans c8
            refine ⟨_, rfl, fun _ => e8, ?_⟩
            simp only [Act.put, List.setIfInBounds_toArray, List.set_cons_zero, List.set_cons_succ]
            have K8 := Lib.hid k8; clear k8
            have R8 := Lib.hid r8; clear r8
            have HZ8 := Lib.hid hz8; clear hz8
            cases b8 with
            | false =>
              refine SqC.quiet rfl rfl ?_; go_big_quiet_step (fail); refine wpQuiet_nil ?_
              refine SqC.quiet rfl rfl ?_; go_big_quiet_step (fail); refine wpQuiet_nil ?_
              refine SqC.nil ?_
              go_wp2
              go_ret
              exact ⟨⟨false, a8, z8, rfl, W4C.out.trans e8, ha8, HZ8.out, K8.out, NO2.out (by first | rfl | trivial) c HC1.out (by have := takRes_false R8.out; rwa [HC2.out] at this) _ _⟩⟩
            | true =>
              obtain ⟨d, hd1, hd2, hd3⟩ := takRes_true R8.out
              have hfin := YES.out rfl c d HC1.out (by rw [HC2.out] at hd1; exact hd1)
              rw [HC2.out] at hd3 hd2
              rw [HC3.out] at hd3
              rw [← hd3, ← hd2] at hfin
              have HFIN := Lib.hid hfin; clear hfin hd1 hd2 hd3
              refine SqC.quiet rfl rfl ?_; go_big_quiet_step (fail); refine wpQuiet_nil ?_
              refine SqC.quiet rfl rfl ?_; go_big_quiet_step (fail); refine wpQuiet_nil ?_
              refine SqC.nil ?_
              go_wp2
              go_ret
              exact ⟨⟨true, a8, z8, rfl, W4C.out.trans e8, ha8, HZ8.out, K8.out, HFIN.out⟩⟩
      · have i1 : (x.w != (m : Int)) = true := by rw [bne_iff_ne]; exact hxm
        have i2 : (x.w = (m : Int)) = False := eq_false hxm
        have hr : takRes may l st (n + 1) (m : Int) a z false a z := takRes_no (by
          rw [tak_step (by rw [← HB1.out]) (by rw [← HQ.out]; exact HQ1.out) hil, if_neg (by rw [← hx]; exact fun h => hxm h.1)])
        have HR := Lib.hid hr; clear hr
        have c0 : w.cell? ⟨g, o + a * 10, none⟩ = some (.int .i64 x.w) := cA 0 _ rfl
        clear cA hC0 hxm hx hxAt
        go_enter Try.func42, Try.ntmps42
        go_wp2_with (fail)
        refine HCT.out.mono ?_
        rintro e w2 ⟨rfl, h⟩
        have h2 := h.symm; clear h; subst h2
        go_wp2_with (fail)
        refine HSZ.out.mono ?_
        rintro e w2 ⟨rfl, h⟩
        have h2 := h.symm; clear h; subst h2
        go_wp2
        go_ret
        exact ⟨⟨false, a, z, rfl, hK0, HAL.out, HZA.out, HW.out, HR.out⟩⟩
end Go.Proofs.Ytnkinjilnccmfaa
/- order: the program's Check. -/
namespace Go.Order
open Go.RowKit Go.Own Go.Proofs.Ytnkinjilnccmfaa
def chkV (whole : Int) (may : List Spl) (st : List Int) (l : List Spl) : Int × Int :=
  if errV whole may st = 0 then (if tak may st 65536 whole l = some l.length then ((costL l : Nat), 0) else (0, 22)) else (0, errV whole may st)
end Go.Order
namespace Go.Proofs.Ytnkinjilnccmfaa
open Go.RowKit Go.Own Go.BigFrame Go.Big Go.Order
attribute [local go_sem high] run_store_func
set_option maxRecDepth 100000 in
set_option maxHeartbeats 3200000 in
theorem check_any (whole : Int) (may l : List Spl) (st : List Int) (s t u : Option Addr) (ca cb cc : Nat) (w : World) (hl : Lst w (.slice s may.length ca) may) (hm : Sz w (.slice t st.length cb) st.length (intsI st)) (hL : Lst w (.slice u l.length cc) l)
    (nm : may.length < 1000000) (ns : st.length < 1000000) (nl : l.length < 1000000) :
    Calls Try.prog 17 #[.int .i64 whole, .slice s may.length ca, .slice t st.length cb, .slice u l.length cc] w fun e w' => e = .returned (.tuple #[.int .i64 (chkV whole may st l).1, .int .i64 (chkV whole may st l).2]) ∧ Below w.heap.size w w' := by
  obtain ⟨W1, hW1⟩ : ∃ W1, W1 = w.alloc (.cells #[.slice s may.length ca] 23) := ⟨_, rfl⟩
  obtain ⟨W2, hW2⟩ : ∃ W2, W2 = W1.alloc (.cells #[.slice t st.length cb] 24) := ⟨_, rfl⟩
  obtain ⟨W3, hW3⟩ : ∃ W3, W3 = W2.alloc (.cells #[.slice u l.length cc] 23) := ⟨_, rfl⟩
  have z1 : W1.heap.size = w.heap.size + 1 := by rw [hW1]; exact alloc_size _ _
  have z2 : W2.heap.size = w.heap.size + 1 + 1 := by rw [hW2, alloc_size, z1]
  have z3 : W3.heap.size = w.heap.size + 1 + 1 + 1 := by rw [hW3, alloc_size, z2]
  have b1 : Below w.heap.size w W1 := by rw [hW1]; exact alloc_below _ _
  have b2 : Below W1.heap.size W1 W2 := by rw [hW2]; exact alloc_below _ _
  have b3 : Below W2.heap.size W2 W3 := by rw [hW3]; exact alloc_below _ _
  have b23 : Below W1.heap.size W1 W3 := b2.trans (b3.mono b2.size)
  have b03 : Below w.heap.size w W3 := b1.trans (b23.mono b1.size)
  have B1 : Blk W3 w.heap.size [.slice s may.length ca] 23 := (by rw [hW1]; exact Blk.new w #[.slice s may.length ca] 23 : Blk W1 w.heap.size [.slice s may.length ca] 23).below b23 (by omega)
  have B2 : Blk W3 (w.heap.size + 1) [.slice t st.length cb] 24 := by
    have : Blk W2 W1.heap.size [.slice t st.length cb] 24 := by rw [hW2]; exact Blk.new W1 #[.slice t st.length cb] 24
    rw [z1] at this
    exact this.below b3 (by omega)
  have B3 : Blk W3 (w.heap.size + 1 + 1) [.slice u l.length cc] 23 := by
    have : Blk W3 W2.heap.size [.slice u l.length cc] 23 := by rw [hW3]; exact Blk.new W2 #[.slice u l.length cc] 23
    rwa [z2] at this
  have hf := fits_any whole may st s t ca cb W3 (hl.below b03) (hm.below b03)
  have q1 : W3.cell? ⟨w.heap.size, 0, none⟩ = some (.slice s may.length ca) := B1.cell rfl
  have q2 : W3.cell? ⟨w.heap.size + 1, 0, none⟩ = some (.slice t st.length cb) := B2.cell rfl
  have hev := errV_cases whole may st
  have hok := fun h : errV whole may st = 0 => errV_ok h
  have hch : chkV whole may st l = if errV whole may st = 0 then (if tak may st 65536 whole l = some l.length then (((costL l : Nat) : Int), 0) else (0, 22)) else (0, errV whole may st) := rfl
  obtain ⟨E, hE⟩ : ∃ E, E = errV whole may st := ⟨_, rfl⟩
  rw [← hE] at hf hev hok hch
  rw [hW3, hW2, hW1] at q1 q2
  have HB1 := Lib.hid B1; clear B1
  have HB2 := Lib.hid B2; clear B2
  have HB3 := Lib.hid B3; clear B3
  have HF := Lib.hid hf; clear hf
  have HB03 := Lib.hid b03; clear b03 b1 b2 b3 b23
  have HW1 := Lib.hid hW1; clear hW1
  have HW2 := Lib.hid hW2; clear hW2
  have HW3 := Lib.hid hW3; clear hW3
  have HZ3 := Lib.hid z3; clear z1 z2 z3
  have HL := Lib.hid hl; clear hl
  have HM := Lib.hid hm; clear hm
  have HLL := Lib.hid hL; clear hL
  have HOK := Lib.hid hok; clear hok
  have HCH := Lib.hid hch; clear hch
  have HNM := Lib.hid nm; clear nm
  have HNS := Lib.hid ns; clear ns
  have HNL := Lib.hid nl; clear nl
  clear hE
  by_cases h0 : E = 0
  · subst h0
    clear hev
    go_enter Try.func17, Try.ntmps17
    go_wp2_with (fail)
    rw [← HW1.out, ← HW2.out, ← HW3.out]
    clear q1 q2
    refine HF.out.mono ?_
    rintro e V ⟨rfl, bV⟩
    have d1 := HB1.out.below bV HB1.out.lt
    have d2 := HB2.out.below bV HB2.out.lt
    have d3 := HB3.out.below bV HB3.out.lt
    have bwV := HB03.out.trans (bV.mono HB03.out.size)
    obtain ⟨_, _, hwb, _, hmok⟩ := HOK.out (by first | rfl | trivial)
    obtain ⟨m, rfl, hm1, hm2⟩ := isB_nat hwb
    obtain ⟨U1, hU1⟩ : ∃ U1, U1 = V.alloc (.cells #[.int .i64 0] 3) := ⟨_, rfl⟩
    obtain ⟨U2, hU2⟩ : ∃ U2, U2 = U1.alloc (.cells #[.int .i64 0] 3) := ⟨_, rfl⟩
    obtain ⟨U3, hU3⟩ : ∃ U3, U3 = U2.alloc (.cells #[tkv (w.heap.size + 1) (w.heap.size + 1 + 1) w.heap.size V.heap.size (V.heap.size + 1) (V.heap.size + 1 + 1)] 82) := ⟨_, rfl⟩
    have y1 : U1.heap.size = V.heap.size + 1 := by rw [hU1, alloc_size]
    have y2 : U2.heap.size = V.heap.size + 1 + 1 := by rw [hU2, alloc_size, y1]
    have e1 : Below V.heap.size V U1 := by rw [hU1]; exact alloc_below _ _
    have e2 : Below U1.heap.size U1 U2 := by rw [hU2]; exact alloc_below _ _
    have e3 : Below U2.heap.size U2 U3 := by rw [hU3]; exact alloc_below _ _
    have e13 : Below U1.heap.size U1 U3 := e2.trans (e3.mono e2.size)
    have eV : Below V.heap.size V U3 := e1.trans (e13.mono e1.size)
    have k1 : Blk U3 V.heap.size [.int .i64 ((0 : Nat) : Int)] 3 := (by rw [hU1]; exact Blk.new V #[.int .i64 0] 3 : Blk U1 V.heap.size [.int .i64 ((0 : Nat) : Int)] 3).below e13 (by omega)
    have k2 : Blk U3 (V.heap.size + 1) [.int .i64 ((0 : Nat) : Int)] 3 := by
      have : Blk U2 U1.heap.size [.int .i64 ((0 : Nat) : Int)] 3 := by rw [hU2]; exact Blk.new U1 #[.int .i64 0] 3
      rw [y1] at this
      exact this.below e3 (by omega)
    have k3 : Blk U3 (V.heap.size + 1 + 1) [tkv (w.heap.size + 1) (w.heap.size + 1 + 1) w.heap.size V.heap.size (V.heap.size + 1) (V.heap.size + 1 + 1)] 82 := by
      have : Blk U3 U2.heap.size [tkv (w.heap.size + 1) (w.heap.size + 1 + 1) w.heap.size V.heap.size (V.heap.size + 1) (V.heap.size + 1 + 1)] 82 := by rw [hU3]; exact Blk.new U2 #[tkv (w.heap.size + 1) (w.heap.size + 1 + 1) w.heap.size V.heap.size (V.heap.size + 1) (V.heap.size + 1 + 1)] 82
      rwa [y2] at this
    have TS : TkS V may l st s t u ca cb cc (w.heap.size + 1) (w.heap.size + 1 + 1) w.heap.size V.heap.size (V.heap.size + 1) (V.heap.size + 1 + 1) :=
      ⟨HL.out.below bwV, HM.out.below bwV, HLL.out.below bwV, d2.cell rfl, d3.cell rfl, d1.cell rfl, Nat.le_refl _, by omega, by omega, by omega, by omega, by omega, hmok, HNM.out, HNS.out, HNL.out⟩
    have ht := take_any TS 65536 m hm2 U3 0 0 (Nat.zero_le _) (Nat.zero_le _) ⟨eV, k1, k2, k3.cell rfl⟩
    have q0 : U3.cell? ⟨V.heap.size + 1 + 1, 0, none⟩ = some (tkv (w.heap.size + 1) (w.heap.size + 1 + 1) w.heap.size V.heap.size (V.heap.size + 1) (V.heap.size + 1 + 1)) := k3.cell rfl
    have HT := Lib.hid ht; clear ht
    have HTS := Lib.hid TS; clear TS
    have HU1 := Lib.hid hU1; clear hU1
    have HU2 := Lib.hid hU2; clear hU2
    have HU3 := Lib.hid hU3; clear hU3
    have HEV := Lib.hid eV; clear eV e1 e2 e3 e13 k1 k2 k3 y1 y2 d1 d2 q0
    have HBW := Lib.hid bwV; clear bwV bV
    have HD3 := Lib.hid d3; clear d3
    clear hwb hmok hm1 hm2
    go_wp2_with (fail)
    rw [← HU1.out, ← HU2.out, ← HU3.out]
    refine HT.out.mono ?_
    rintro e w5 ⟨⟨b, a', z', rfl, hc, ha', hz', hk, hr⟩⟩
    have f1 : w5.cell? ⟨V.heap.size, 0, none⟩ = some (.int .i64 (a' : Int)) := hk.bat.cell rfl
    have f2 : w5.cell? ⟨V.heap.size + 1, 0, none⟩ = some (.int .i64 (z' : Int)) := hk.bsum.cell rfl
    have f3 : w5.cell? ⟨w.heap.size + 1 + 1, 0, none⟩ = some (.slice u l.length cc) := (hk.below.cell (p := ⟨w.heap.size + 1 + 1, 0, none⟩) HD3.out.lt).trans (HD3.out.cell rfl)
    have bw5 : Below w.heap.size w w5 := HBW.out.trans (hk.below.mono HBW.out.size)
    have HB5 := Lib.hid bw5; clear bw5 hk hc
    have HR := Lib.hid hr; clear hr
    cases b with
    | false =>
      have hv : chkV (m : Int) may st l = (0, 22) := by
        have h1 := takRes_false HR.out
        rw [List.drop_zero] at h1
        rw [HCH.out, if_pos (by first | rfl | trivial), if_neg (by rw [h1]; simp)]
      have HV := Lib.hid hv; clear hv
      go_wp2
      go_ret2
      exact ⟨by rw [HV.out]; rfl, HB5.out⟩
    | true =>
      obtain ⟨k, hk1, hk2, hk3⟩ := takRes_true HR.out
      rw [List.drop_zero] at hk1 hk3
      rw [Nat.zero_add] at hk2 hk3
      have HK1 := Lib.hid hk1; clear hk1
      have HK3 := Lib.hid hk3; clear hk3
      have HK2 := Lib.hid hk2; clear hk2
      by_cases hal : a' = l.length
      · have hv : chkV (m : Int) may st l = ((z' : Int), 0) := by
          rw [HCH.out, if_pos (by first | rfl | trivial), if_pos (by rw [HK1.out, ← HK2.out, hal]), HK3.out, ← HK2.out, hal, List.take_length]
        have HV := Lib.hid hv; clear hv
        have g1 : ((a' : Int) != l.length) = false := by rw [bne_eq_false_iff_eq]; omega
        have g2 : ((a' : Int) = l.length) = True := eq_true (by omega)
        clear hal
        go_wp2
        go_ret2
        exact ⟨by rw [HV.out]; rfl, HB5.out⟩
      · have hv : chkV (m : Int) may st l = (0, 22) := by
          rw [HCH.out, if_pos (by first | rfl | trivial), if_neg (by rw [HK1.out, ← HK2.out]; intro h; exact hal (Option.some.inj h))]
        have HV := Lib.hid hv; clear hv
        have g1 : ((a' : Int) != l.length) = true := by rw [bne_iff_ne]; omega
        have g2 : ((a' : Int) = l.length) = False := eq_false (by omega)
        clear hal
        go_wp2
        go_ret2
        exact ⟨by rw [HV.out]; rfl, HB5.out⟩
  · have HCE := Lib.hid (show chkV whole may st l = (0, E) by rw [HCH.out, if_neg h0])
    have HE0 := Lib.hid h0
    have h1 : (E != 0) = true := by rw [bne_iff_ne]; exact h0
    have h2 : (E = 0) = False := eq_false h0
    clear h0
    go_enter Try.func17, Try.ntmps17
    go_wp2_with (fail)
    rw [← HW1.out, ← HW2.out, ← HW3.out]
    clear q1 q2
    refine HF.out.mono ?_
    rintro e V ⟨rfl, bV⟩
    go_wp2
    go_ret2
    exact ⟨by rw [HCE.out]; rfl, HB03.out.trans (bV.mono HB03.out.size)⟩
end Go.Proofs.Ytnkinjilnccmfaa
/- order: the reference's taken, Check. -/
namespace Go.Order
open Go.RowKit Go.Own Go.Proofs.Ytnkinjilnccmfaa
theorem Spl.eqv_comm (x y : Spl) : x.eqv y = y.eqv x := by
  unfold Spl.eqv
  rw [x.a.eqv_comm, x.b.eqv_comm, x.c.eqv_comm, x.d.eqv_comm, Bool.beq_comm (a := x.w), Bool.beq_comm (a := x.p)]
theorem inB_eq (may : List Spl) (y : Spl) : (may.any fun x => x.eqv y) = inB may y := by unfold inB; congr 1; funext x; exact x.eqv_comm y
def takI (may : List Spl) (st : List Int) (n : Nat) (s : Int) (l : List Spl) : Int := match tak may st n s l with | none => -1 | some k => k
theorem takI_none {may : List Spl} {st : List Int} {n : Nat} {s : Int} {l : List Spl} (h : tak may st n s l = none) : takI may st n s l = -1 := by unfold takI; rw [h]
theorem takI_some {may : List Spl} {st : List Int} {n : Nat} {s : Int} {l : List Spl} {k : Nat} (h : tak may st n s l = some k) : takI may st n s l = k := by unfold takI; rw [h]
theorem takI_cases (may : List Spl) (st : List Int) (n : Nat) (s : Int) (l : List Spl) : (tak may st n s l = none ∧ takI may st n s l = -1) ∨ ∃ k : Nat, tak may st n s l = some k ∧ takI may st n s l = k ∧ k ≤ l.length := by
  cases h : tak may st n s l with
  | none => exact .inl ⟨rfl, takI_none h⟩
  | some k => exact .inr ⟨k, rfl, takI_some h, tak_le h⟩
theorem flat_drop : ∀ (l : List Spl) (k : Nat), flat (l.drop k) = (flat l).drop (k * 10)
  | [], k => by unfold flat; simp
  | x :: l, 0 => by simp
  | x :: l, k + 1 => by
    rw [List.drop_succ_cons, flat_drop l k, flat_cons]
    have e : x.cells.length = 10 := rfl
    rw [show (k + 1) * 10 = 10 + k * 10 by omega, ← List.drop_drop, ← e, List.drop_left]
/-- the rest of a list from its k-th element on -/
def dropA (a : Option Addr) (cap k : Nat) : Option Addr := if cap = k then a else a.map (·.add (k * 10))
end Go.Order
namespace Go.Proofs.Ytnkinjilnccmfaa
open Go.RowKit Go.Own Go.BigFrame Go.Big Go.Order
theorem lst_drop {w : World} {a : Option Addr} {cap : Nat} {l : List Spl} (h : Lst w (.slice a l.length cap) l) {k : Nat} (hk : k ≤ l.length) : Lst w (.slice (dropA a cap k) (l.drop k).length (cap - k)) (l.drop k) := by
  refine ⟨?_, fun x hx => h.at' x (List.mem_of_mem_drop hx)⟩
  obtain ⟨h1, ⟨h2, h3⟩ | ⟨b, off, cap', h2, h3, h4, h5, h6⟩⟩ := h.sl
  · have hl : l = [] := List.eq_nil_of_length_eq_zero h3
    subst hl
    obtain rfl : k = 0 := by simpa using hk
    cases h2
    exact ⟨rfl, .inl ⟨rfl, rfl⟩⟩
  · cases h2
    refine ⟨by rw [flat_len], ?_⟩
    by_cases e : cap = k
    · have hl : l.length = k := by omega
      refine .inr ⟨b, off, cap - k, by unfold dropA; rw [if_pos e], by rw [List.length_drop]; omega, by omega, ?_, h6⟩
      rw [List.drop_of_length_le (by omega)]
      intro i v hv; cases hv
    · refine .inr ⟨b, off + k * 10, cap - k, by unfold dropA; rw [if_neg e, List.length_drop]; simp [Addr.add], by rw [List.length_drop]; omega, by omega, fun i v hv => ?_, h6⟩
      rw [flat_drop, List.getElem?_drop] at hv
      have := h5 _ v hv
      rwa [Nat.add_assoc]
theorem hTspl : Try.prog.underlying 23 = some (.slice (Try.prog.elem 23)) := by kernel_rfl
theorem sizeSpl (w : World) : (sizeOf (Try.prog.elem 23)).run Try.prog w = .ok 10 w := by kernel_rfl
theorem sl_from (a : Option Addr) (len cap k : Nat) (hk : k ≤ len) (w : World) : (Instr.sliceAt 23 (.slice a len cap) (some (.int .i64 (k : Int))) none none).run Try.prog w = .ok (.slice (dropA a cap k) (len - k) (cap - k)) w := by
  rw [run_sliceAt_slice w _ _ _ _ _ hTspl, run_slice_l w _ a len cap hTspl .i64 (k : Int) (by omega) (by omega), sizeSpl]
  simp only [Result.andThen, sliced, Int.toNat_natCast]
  rfl
attribute [local irreducible] SqC.SqW
set_option maxRecDepth 100000 in
set_option maxHeartbeats 6400000 in
theorem taken_any (may : List Spl) (st : List Int) (s t : Option Addr) (ca cb : Nat) (hok : may.all Spl.ok = true) (nm : may.length < 1000000) (ns : st.length < 1000000) :
    ∀ (n m : Nat), m < n → ∀ (l : List Spl) (u : Option Addr) (cc : Nat) (w : World), l.length < 1000000 → Lst w (.slice s may.length ca) may → Sz w (.slice t st.length cb) st.length (intsI st) → Lst w (.slice u l.length cc) l →
    Calls Try.prog 48 #[.int .i64 (m : Int), .slice s may.length ca, .slice t st.length cb, .slice u l.length cc] w fun e w' => e = .returned (.int .i64 (takI may st n (m : Int) l)) ∧ Below w.heap.size w w' := by
  intro n
  induction n with
  | zero => intro m hm; omega
  | succ n ih =>
  intro m hm l u cc w nl hl hst hL
  have hct := rhas_any st (m : Int) t cb w hst (by omega)
  have hsz := rsize_any (m : Int) w
  have hnl2 : (l.length : Int) < 4611686018427387904 := by omega
  obtain ⟨b1, hb1⟩ : ∃ b, b = hasB st (m : Int) := ⟨_, rfl⟩
  obtain ⟨q, hq⟩ : ∃ q, q = siz (m : Int) := ⟨_, rfl⟩
  rw [← hb1] at hct
  rw [← hq] at hsz
  have HCT := Lib.hid hct; clear hct
  have HSZ := Lib.hid hsz; clear hsz
  have HB1 := Lib.hid hb1; clear hb1
  have HQ := Lib.hid hq; clear hq
  have HL := Lib.hid hl; clear hl
  have HST := Lib.hid hst; clear hst
  have HLL := Lib.hid hL; clear hL
  have IH := Lib.hid ih; clear ih
  have HNL := Lib.hid nl; clear nl
  have HM := Lib.hid hm; clear hm
  cases b1 with
  | false =>
    have hr : takI may st (n + 1) (m : Int) l = -1 := takI_none (by unfold tak; rw [← HB1.out]; rfl)
    have HR := Lib.hid hr; clear hr
    go_enter Try.func48, Try.ntmps48
    go_wp2_with (fail)
    refine HCT.out.mono ?_
    rintro e w2 ⟨rfl, h⟩
    have h2 := h.symm; clear h; subst h2
    go_wp2
    go_ret
    exact ⟨by rw [HR.out]; rfl, Below.refl _ _⟩
  | true =>
  by_cases hq1 : q = 1
  · have e1 : (q : Int) = 1 := by omega
    have e2 : ((q : Int) == 1) = true := by rw [e1]; rfl
    have hr : takI may st (n + 1) (m : Int) l = ((0 : Nat) : Int) := takI_some (by unfold tak; rw [← HB1.out, if_pos rfl, if_pos (by rw [← HQ.out]; exact hq1)])
    have HR := Lib.hid hr; clear hr
    have e3 : ((q : Int) = 1) = True := eq_true e1
    clear e1 hq1
    go_enter Try.func48, Try.ntmps48
    go_wp2_with (fail)
    refine HCT.out.mono ?_
    rintro e w2 ⟨rfl, h⟩
    have h2 := h.symm; clear h; subst h2
    go_wp2_with (fail)
    refine HSZ.out.mono ?_
    rintro e w2 ⟨rfl, h⟩
    have h2 := h.symm; clear h; subst h2
    go_wp2
    go_ret
    exact ⟨by rw [HR.out]; rfl, Below.refl _ _⟩
  · have e2 : ((q : Int) == 1) = false := by rw [beq_eq_false_iff_ne]; omega
    have e3 : ((q : Int) = 1) = False := eq_false (by omega)
    have HQ1 := Lib.hid hq1; clear hq1
    by_cases hae : l.length = 0
    · have f1 : ((l.length : Int) == 0) = true := by rw [hae]; rfl
      have f2 : ((l.length : Int) = 0) = True := eq_true (by omega)
      have f3 : (l.length = 0) = True := eq_true hae
      have hr : takI may st (n + 1) (m : Int) l = -1 := takI_none (by rw [List.eq_nil_of_length_eq_zero hae]; unfold tak; rw [← HB1.out, if_pos rfl, if_neg (by rw [← HQ.out]; exact HQ1.out)])
      have HR := Lib.hid hr; clear hr hae
      go_enter Try.func48, Try.ntmps48
      go_wp2_with (fail)
      refine HCT.out.mono ?_
      rintro e w2 ⟨rfl, h⟩
      have h2 := h.symm; clear h; subst h2
      go_wp2_with (fail)
      refine HSZ.out.mono ?_
      rintro e w2 ⟨rfl, h⟩
      have h2 := h.symm; clear h; subst h2
      go_wp2
      go_ret
      exact ⟨by rw [HR.out]; rfl, Below.refl _ _⟩
    · have f1 : ((l.length : Int) == 0) = false := by rw [beq_eq_false_iff_ne]; omega
      have f2 : ((l.length : Int) = 0) = False := eq_false (by omega)
      have f3 : (l.length = 0) = False := eq_false hae
      have hil : 0 < l.length := by omega
      have hil' : (0 : Int) < l.length := by omega
      clear hae
      obtain ⟨g, o, rfl, -, -, -, hC0, hg0⟩ := HLL.out.at (by omega)
      have cA0 := Lst.cells hC0 hil
      obtain ⟨x, hx⟩ : ∃ x, x = l[0] := ⟨_, rfl⟩
      have hxAt : x.At w := by rw [hx]; exact HLL.out.at' _ (List.getElem_mem hil)
      rw [← hx] at cA0
      rw [show o + 0 * 10 = o by omega] at cA0
      have hstp := tak_step (may := may) (n := n) (by rw [← HB1.out]) (by rw [← HQ.out]; exact HQ1.out : siz (m : Int) ≠ 1) hil
      rw [List.drop_zero, ← hx, Nat.zero_add] at hstp
      by_cases hxm : x.w = m
      · have hin := rin_any may x s ca w HL.out hxAt (by omega)
        rw [inB_eq] at hin
        have hrest := rrest_any x
        have hpr : inB may x = true → ∃ p r : Nat, x.p = p ∧ x.rest = r ∧ p < n ∧ r < n := fun h => by
          obtain ⟨w', p, r, e1, e2, e3, q1, q2, _⟩ := ok_parts (inB_ok hok h)
          have := HM.out
          exact ⟨p, r, e2, e3, by omega, by omega⟩
        have hno0 : inB may x = false → takI may st (n + 1) (m : Int) l = -1 := fun h => takI_none (by rw [hstp, if_neg (by rw [h]; exact fun h => absurd h.2 (by decide))])
        have hno1 : inB may x = true → tak may st n x.p (l.drop 1) = none → takI may st (n + 1) (m : Int) l = -1 := fun h hn => takI_none (by rw [hstp, if_pos ⟨hxm, h⟩, hn])
        have hno2 : inB may x = true → ∀ c, tak may st n x.p (l.drop 1) = some c → tak may st n x.rest (l.drop (1 + c)) = none → takI may st (n + 1) (m : Int) l = -1 := fun h c hc hn => takI_none (by rw [hstp, if_pos ⟨hxm, h⟩, hc]; dsimp only; rw [hn])
        have hyes : inB may x = true → ∀ c d, tak may st n x.p (l.drop 1) = some c → tak may st n x.rest (l.drop (1 + c)) = some d → takI may st (n + 1) (m : Int) l = ((1 + c + d : Nat) : Int) := fun h c d hc hd => takI_some (by rw [hstp, if_pos ⟨hxm, h⟩, hc]; dsimp only; rw [hd])
        obtain ⟨R, hR⟩ : ∃ R, R = x.rest := ⟨_, rfl⟩
        obtain ⟨B, hB⟩ : ∃ B, B = inB may x := ⟨_, rfl⟩
        rw [← hR] at hrest hpr hno2 hyes
        rw [← hB] at hin hpr hno0 hno1 hno2 hyes
        clear hR hB hstp hx hC0 hxAt
        obtain ⟨xw, xp, ⟨na, da, sa, ya⟩, ⟨nb, db, sb, yb⟩, ⟨nc, dc, sc, yc⟩, ⟨nd, dd, sd, yd⟩⟩ := x
        dsimp only at hpr hno1 hno2 hyes hxm
        obtain rfl := hxm
        have hin' : Calls Try.prog 74 #[.slice s may.length ca, .agg #[.int .i64 (m : Int), .int .i64 xp, .bool na, .slice sa da.length ya, .bool nb, .slice sb db.length yb, .bool nc, .slice sc dc.length yc, .bool nd, .slice sd dd.length yd]] w fun e w' => e = .returned (.bool B) ∧ Below w.heap.size w w' := hin
        have hrest' : ∀ U : World, Calls Try.prog 28 #[.agg #[.int .i64 (m : Int), .int .i64 xp, .bool na, .slice sa da.length ya, .bool nb, .slice sb db.length yb, .bool nc, .slice sc dc.length yc, .bool nd, .slice sd dd.length yd]] U fun e w' => e = .returned (.int .i64 R) ∧ Below U.heap.size U w' := fun U => hrest U
        have k0 : w.cell? ⟨g, o, none⟩ = some (.int .i64 (m : Int)) := cA0 0 _ rfl
        have k1 : w.cell? ⟨g, o + 1, none⟩ = some (.int .i64 xp) := cA0 1 _ rfl
        have k2 : w.cell? ⟨g, o + 2, none⟩ = some (.bool na) := cA0 2 _ rfl
        have k3 : w.cell? ⟨g, o + 3, none⟩ = some (.slice sa da.length ya) := cA0 3 _ rfl
        have k4 : w.cell? ⟨g, o + 4, none⟩ = some (.bool nb) := cA0 4 _ rfl
        have k5 : w.cell? ⟨g, o + 5, none⟩ = some (.slice sb db.length yb) := cA0 5 _ rfl
        have k6 : w.cell? ⟨g, o + 6, none⟩ = some (.bool nc) := cA0 6 _ rfl
        have k7 : w.cell? ⟨g, o + 7, none⟩ = some (.slice sc dc.length yc) := cA0 7 _ rfl
        have k8 : w.cell? ⟨g, o + 8, none⟩ = some (.bool nd) := cA0 8 _ rfl
        have k9 : w.cell? ⟨g, o + 9, none⟩ = some (.slice sd dd.length yd) := cA0 9 _ rfl
        have hcell : ∀ U, Below w.heap.size w U → U.cell? ⟨g, o + 1, none⟩ = some (.int .i64 xp) ∧ (loadVar 58 ⟨g, o, none⟩).run Try.prog U = .ok (.agg #[.int .i64 (m : Int), .int .i64 xp, .bool na, .slice sa da.length ya, .bool nb, .slice sb db.length yb, .bool nc, .slice sc dc.length yc, .bool nd, .slice sd dd.length yd]) U := fun U hU =>
          ⟨(hU.cell (p := ⟨g, o + 1, none⟩) hg0).trans k1, run_load_agg (P := Try.prog) (ty := 58) (vs := [.int .i64 (m : Int), .int .i64 xp, .bool na, .slice sa da.length ya, .bool nb, .slice sb db.length yb, .bool nc, .slice sc dc.length yc, .bool nd, .slice sd dd.length yd]) ((show Cells w g o [.int .i64 (m : Int), .int .i64 xp, .bool na, .slice sa da.length ya, .bool nb, .slice sb db.length yb, .bool nc, .slice sc dc.length yc, .bool nd, .slice sd dd.length yd] from cA0).below hU hg0) aggS infoS⟩
        have HCE := Lib.hid hcell; clear hcell
        have HIN := Lib.hid hin'; clear hin hin'
        have HRE := Lib.hid hrest'; clear hrest hrest' cA0
        have HPR := Lib.hid hpr; clear hpr
        have NO0 := Lib.hid hno0; clear hno0
        have NO1 := Lib.hid hno1; clear hno1
        have NO2 := Lib.hid hno2; clear hno2
        have YES := Lib.hid hyes; clear hyes
        have HG0 := Lib.hid hg0; clear hg0
        go_enter Try.func48, Try.ntmps48
        go_wp2_with (fail)
        refine HCT.out.mono ?_
        rintro e w2 ⟨rfl, h⟩
        have h2 := h.symm; clear h; subst h2
        go_wp2_with (fail)
        refine HSZ.out.mono ?_
        rintro e w2 ⟨rfl, h⟩
        have h2 := h.symm; clear h; subst h2
        go_wp2_with (fail)
        refine HIN.out.mono ?_
        rintro e w5 ⟨rfl, b5⟩
        have HB5 := Lib.hid b5; clear b5 k0 k1 k2 k3 k4 k5 k6 k7 k8 k9
        cases B with
        | false =>
          have HR := Lib.hid (NO0.out (by first | rfl | trivial))
          go_wp2
          go_ret
          exact ⟨by rw [HR.out]; rfl, HB5.out⟩
        | true =>
          obtain ⟨p, r, rfl, rfl, hpn, hrn⟩ := HPR.out (by first | rfl | trivial)
          have HPN := Lib.hid hpn; clear hpn
          have HRN := Lib.hid hrn; clear hrn
          have hil1 : 1 ≤ l.length := hil
          have hs1 : ∀ U : World, (Instr.sliceAt 23 (.slice (some ⟨g, o, none⟩) l.length cc) (some (.int .i64 1)) none none).run Try.prog U = .ok (.slice (dropA (some ⟨g, o, none⟩) cc 1) (l.length - 1) (cc - 1)) U := fun U => sl_from _ _ _ 1 hil1 U
          have HS1 := Lib.hid hs1; clear hs1
          go_wp2
          have eX : Below w.heap.size w w5.drew := HB5.out.drew
          haveI : Nonempty (SqC.Come fun U : World => Below w.heap.size w U) := ⟨⟨_, eX⟩⟩
          refine SqC.wp_region_sqc 10 [8] (fun U : World => Below w.heap.size w U) (by kernel_rfl) (by kernel_rfl) (by kernel_rfl) eX ?_
          obtain ⟨wd, hwd⟩ : ∃ wd : World, wd = w5.drew := ⟨_, rfl⟩
          rw [← hwd] at eX ⊢
          clear hwd
          refine SqC.quiet rfl rfl ?_; go_big_quiet_step (fail); refine wpQuiet_nil ?_
          refine SqC.quiet rfl rfl ?_; go_big_quiet_step (fail); refine wpQuiet_nil ?_
          refine SqC.quiet rfl rfl ?_; go_big_quiet_step (fail); refine wpQuiet_nil ?_
          refine SqC.value (.int .i64 (p : Int)) rfl rfl (by intro U hU; have cx := (HCE.out U hU).1; go_simp) ?_
          simp only [Act.put, List.setIfInBounds_toArray, List.set_cons_zero, List.set_cons_succ]
          refine SqC.quiet rfl rfl ?_; go_big_quiet_step (fail); refine wpQuiet_nil ?_
          refine SqC.quiet rfl rfl ?_; go_big_quiet_step (fail); refine wpQuiet_nil ?_
          refine SqC.quiet rfl rfl ?_; go_big_quiet_step (fail); refine wpQuiet_nil ?_
          refine SqC.value (.slice (dropA (some ⟨g, o, none⟩) cc 1) (l.length - 1) (cc - 1)) rfl rfl (by intro U hU; have cx := HS1.out U; go_simp) ?_
          simp only [Act.put, List.setIfInBounds_toArray, List.set_cons_zero, List.set_cons_succ]
          have hc1 := IH.out p HPN.out (l.drop 1) (dropA (some ⟨g, o, none⟩) cc 1) (cc - 1) wd (by rw [List.length_drop]; have := HNL.out; omega) (HL.out.below eX) (HST.out.below eX) (lst_drop (HLL.out.below eX) hil1)
          rw [List.length_drop] at hc1
          have hcs := takI_cases may st n (p : Int) (l.drop 1)
          rw [List.length_drop] at hcs
          obtain ⟨z, hz⟩ : ∃ z, z = takI may st n (p : Int) (l.drop 1) := ⟨_, rfl⟩
          rw [← hz] at hc1 hcs
          clear hz
          refine SqC.effect rfl rfl ?_
          refine yields_call rfl (by kernel_rfl) rfl rfl (hc1.mono ?_)
          rintro e w6 ⟨rfl, b6⟩
          have e6 : Below w.heap.size w w6 := eX.trans (b6.mono eX.size)
          refine ⟨_, rfl, fun _ => e6, ?_⟩
          simp only [Act.put, List.setIfInBounds_toArray, List.set_cons_zero, List.set_cons_succ]
          refine SqC.quiet rfl rfl ?_; go_big_quiet_step (fail); refine wpQuiet_nil ?_
          refine SqC.nil ?_
          clear hc1 b6 eX this
          clear wd
          have HB6 := Lib.hid e6; clear e6
          rcases hcs with ⟨hc, rfl⟩ | ⟨c, hc, rfl, hcl⟩
          · have HR := Lib.hid (NO1.out (by first | rfl | trivial) hc)
            clear hc
            go_wp2
            go_ret
            exact ⟨by rw [HR.out]; rfl, HB6.out⟩
          · have hc0 : ((c : Int) < 0) = False := eq_false (by omega)
            have hc1 : (1 : Int) + (c : Int) = ((1 + c : Nat) : Int) := by omega
            have HC := Lib.hid hc; clear hc
            have hc2 : 1 + c ≤ l.length := by omega
            have hc3 : (c : Int) < 4611686018427387904 := by omega
            have hs1 : ∀ U : World, (Instr.sliceAt 23 (.slice (some ⟨g, o, none⟩) l.length cc) (some (.int .i64 ((1 : Int) + (c : Int)))) none none).run Try.prog U = .ok (.slice (dropA (some ⟨g, o, none⟩) cc (1 + c)) (l.length - (1 + c)) (cc - (1 + c))) U := fun U => by rw [hc1]; exact sl_from _ _ _ (1 + c) hc2 U
            have HS2 := Lib.hid hs1; clear hs1 hc1
            have HC2 := Lib.hid hc2; clear hc2 hcl
            go_wp2
            have eX : Below w.heap.size w w6.drew := HB6.out.drew
            haveI : Nonempty (SqC.Come fun U : World => Below w.heap.size w U) := ⟨⟨_, eX⟩⟩
            refine SqC.wp_region_sqc 12 [3, 10] (fun U : World => Below w.heap.size w U) (by kernel_rfl) (by kernel_rfl) (by kernel_rfl) eX ?_
            obtain ⟨wd, hwd⟩ : ∃ wd : World, wd = w6.drew := ⟨_, rfl⟩
            rw [← hwd] at eX ⊢
            clear hwd
            refine SqC.quiet rfl rfl ?_; go_big_quiet_step (fail); refine wpQuiet_nil ?_
            refine SqC.quiet rfl rfl ?_; go_big_quiet_step (fail); refine wpQuiet_nil ?_
            refine SqC.value (.agg #[.int .i64 (m : Int), .int .i64 (p : Int), .bool na, .slice sa da.length ya, .bool nb, .slice sb db.length yb, .bool nc, .slice sc dc.length yc, .bool nd, .slice sd dd.length yd]) rfl rfl (fun U hU => load_agg_exec rfl rfl (HCE.out U hU).2) ?_
            simp only [Act.put, List.setIfInBounds_toArray, List.set_cons_zero, List.set_cons_succ]
            refine SqC.effect rfl rfl ?_
            refine yields_call rfl (by kernel_rfl) rfl rfl ((HRE.out wd).mono ?_)
            rintro e w7 ⟨rfl, b7⟩
            have e7 : Below w.heap.size w w7 := eX.trans (b7.mono eX.size)
            refine ⟨_, rfl, fun _ => e7, ?_⟩
            simp only [Act.put, List.setIfInBounds_toArray, List.set_cons_zero, List.set_cons_succ]
            refine SqC.quiet rfl rfl ?_; go_big_quiet_step (fail); refine wpQuiet_nil ?_
            refine SqC.quiet rfl rfl ?_; go_big_quiet_step (fail); refine wpQuiet_nil ?_
            refine SqC.quiet rfl rfl ?_; go_big_quiet_step (fail); refine wpQuiet_nil ?_
            refine SqC.quiet rfl rfl ?_; go_big_quiet_step (fail); refine wpQuiet_nil ?_
            refine SqC.quiet rfl rfl ?_; go_big_quiet_step (fail); refine wpQuiet_nil ?_
            refine SqC.value (.slice (dropA (some ⟨g, o, none⟩) cc (1 + c)) (l.length - (1 + c)) (cc - (1 + c))) rfl rfl (by intro U hU; have cx := HS2.out U; go_simp) ?_
            simp only [Act.put, List.setIfInBounds_toArray, List.set_cons_zero, List.set_cons_succ]
            have hc4 := IH.out r HRN.out (l.drop (1 + c)) (dropA (some ⟨g, o, none⟩) cc (1 + c)) (cc - (1 + c)) w7 (by rw [List.length_drop]; have := HNL.out; omega) (HL.out.below e7) (HST.out.below e7) (lst_drop (HLL.out.below e7) HC2.out)
            rw [List.length_drop] at hc4
            have hcs := takI_cases may st n (r : Int) (l.drop (1 + c))
            rw [List.length_drop] at hcs
            obtain ⟨z, hz⟩ : ∃ z, z = takI may st n (r : Int) (l.drop (1 + c)) := ⟨_, rfl⟩
            rw [← hz] at hc4 hcs
            clear hz
            refine SqC.effect rfl rfl ?_
            refine yields_call rfl (by kernel_rfl) rfl rfl (hc4.mono ?_)
            rintro e w8 ⟨rfl, b8⟩
            have e8 : Below w.heap.size w w8 := e7.trans (b8.mono e7.size)
            refine ⟨_, rfl, fun _ => e8, ?_⟩
            simp only [Act.put, List.setIfInBounds_toArray, List.set_cons_zero, List.set_cons_succ]
            refine SqC.quiet rfl rfl ?_; go_big_quiet_step (fail); refine wpQuiet_nil ?_
            refine SqC.nil ?_
            clear hc4 b8 e7 b7 eX this
            have HB8 := Lib.hid e8; clear e8
            rcases hcs with ⟨hd, rfl⟩ | ⟨d, hd, rfl, hdl⟩
            · have HR := Lib.hid (NO2.out (by first | rfl | trivial) c HC.out hd)
              clear hd
              go_wp2
              go_ret
              exact ⟨by rw [HR.out]; rfl, HB8.out⟩
            · have hd0 : ((d : Int) < 0) = False := eq_false (by omega)
              have hd3 : (d : Int) < 4611686018427387904 := by omega
              have hcd : (1 : Int) + (c : Int) + (d : Int) < 4611686018427387904 := by have := HC2.out; have := HNL.out; omega
              have HR := Lib.hid (YES.out (by first | rfl | trivial) c d HC.out hd)
              clear hd hdl
              go_wp2
              go_ret
              exact ⟨by rw [HR.out]; go_num, HB8.out⟩
      · have i1 : (x.w != (m : Int)) = true := by rw [bne_iff_ne]; exact hxm
        have i2 : (x.w = (m : Int)) = False := eq_false hxm
        have hr : takI may st (n + 1) (m : Int) l = -1 := takI_none (by rw [hstp, if_neg (fun h => hxm h.1)])
        have HR := Lib.hid hr; clear hr
        have c0 : w.cell? ⟨g, o, none⟩ = some (.int .i64 x.w) := cA0 0 _ rfl
        clear cA0 hC0 hxm hx hxAt hstp
        go_enter Try.func48, Try.ntmps48
        go_wp2_with (fail)
        refine HCT.out.mono ?_
        rintro e w2 ⟨rfl, h⟩
        have h2 := h.symm; clear h; subst h2
        go_wp2_with (fail)
        refine HSZ.out.mono ?_
        rintro e w2 ⟨rfl, h⟩
        have h2 := h.symm; clear h; subst h2
        go_wp2
        go_ret
        exact ⟨by rw [HR.out]; rfl, Below.refl _ _⟩
end Go.Proofs.Ytnkinjilnccmfaa
