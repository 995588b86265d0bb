/- order: the program's closure that adds the tree of a set to a list. -/
import Derived.Test.YtnkinjilnccmfaaQ24
namespace Go.Order
open Go.RowKit Go.Own Go.Proofs.Ytnkinjilnccmfaa Go.Theory
/-- the least tree of a set -/
def tre (may : List Spl) (st : List Int) : Nat → Nat → List Spl
  | 0, _ => []
  | n + 1, s =>
    if 0 ≤ (bb may st s).1 then
      match may[(bb may st s).1.toNat]? with
      | some x => x :: (tre may st n x.p.toNat ++ tre may st n x.rest.toNat)
      | none => []
    else []
theorem tre_neg {may : List Spl} {st : List Int} {n s : Nat} (h : ¬ 0 ≤ (bb may st s).1) : tre may st (n + 1) s = [] := by unfold tre; rw [if_neg h]
theorem tre_step {may : List Spl} {st : List Int} (hok : may.all Spl.ok = true) {n s : Nat} (hs : s < 65536) (h : 0 ≤ (bb may st s).1) :
    ∃ (i p r : Nat), (bb may st s).1 = i ∧ ∃ hi : i < may.length, may[i].w = s ∧ may[i].p = p ∧ may[i].rest = r ∧ p < s ∧ r < s ∧ tre may st (n + 1) s = may[i] :: (tre may st n p ++ tre may st n r) ∧
      pop p + pop r = pop s ∧ 0 ≤ (bb may st p).2 ∧ 0 ≤ (bb may st r).2 ∧ (bb may st s).2 = (bb may st p).2 + (bb may st r).2 + (may[i].cost : Nat) ∧ 1 ≤ p ∧ 1 ≤ r := by
  have L := bst_law (firm := fmN st) (nps_ok hok) hs
  obtain ⟨i, h1, h2, h3, h4, h5, h6⟩ := L.at' h
  rw [nps_len] at h2
  have hw : may[i].w = s := by
    have hx := List.all_eq_true.1 hok may[i] (List.getElem_mem h2)
    obtain ⟨w', p', e1, e2, o⟩ := may[i].ok_iff.1 hx
    obtain ⟨_, _, _, _, _, _, _, e4, _⟩ := nps_at hok h2 e1
    rw [e4] at h3
    dsimp only at h3
    omega
  obtain ⟨p, r, e1, e2, e3, e4, e5, e6, e7, e8⟩ := nps_at hok h2 hw
  have oo := getD_ok (nps_ok hok) (i := i) (by rw [nps_len]; exact h2)
  have o2 := oo.two
  have p1 := oo.p1
  have r1 := oo.r1
  rw [e7, e6] at o2
  rw [e6] at p1 h4
  rw [e7] at r1 h5
  rw [e6] at h6
  rw [← e6, e7, e8] at h6
  rw [e6] at h6
  refine ⟨i, p, r, h1, h2, hw, e1, e2, e3, e4, ?_, o2.1, h4, h5, h6, p1, r1⟩
  have h1' : (bb may st s).1 = i := h1
  conv => lhs; unfold tre
  rw [if_pos h, h1', Int.toNat_natCast, List.getElem?_eq_getElem h2]
  dsimp only
  rw [e1, e2, Int.toNat_natCast, Int.toNat_natCast]
theorem tre_len {may : List Spl} {st : List Int} (hok : may.all Spl.ok = true) : ∀ (n s : Nat), 1 ≤ s → s < 65536 → (tre may st n s).length + 1 ≤ pop s
  | 0, s, h1, h2 => pop_pos h1 h2
  | n + 1, s, h1, h2 => by
    by_cases h : 0 ≤ (bb may st s).1
    · obtain ⟨i, p, r, _, hi, _, _, _, hp, hr, e, hpop, _, _, _, p1, r1⟩ := tre_step (st := st) (n := n) hok h2 h
      have i1 := tre_len (st := st) hok n p p1 (by omega)
      have i2 := tre_len (st := st) hok n r r1 (by omega)
      rw [e, List.length_cons, List.length_append]
      omega
    · rw [tre_neg h]; exact pop_pos h1 h2
end Go.Order
namespace Go.Proofs.Ytnkinjilnccmfaa
open Go.RowKit Go.Own Go.BigFrame Go.Big Go.Order
abbrev adv (gbd gout gmy gad : Nat) : Value := .func (.func 36) #[] #[.pointer (some ⟨gbd, 0, none⟩), .pointer (some ⟨gout, 0, none⟩), .pointer (some ⟨gmy, 0, none⟩), .pointer (some ⟨gad, 0, none⟩)]
/-- what add needs, and what stays -/
structure AdS (V Z : World) (may : List Spl) (st : List Int) (s : Option Addr) (ca gf go gm F O K gk gb gbd gout gmy gad : Nat) : Prop where
  S : BdS V may st s ca gf go gm F O K gk gb
  bz : BdW V Z may st gf go gm K gk gb
  cbd : Z.cell? ⟨gbd, 0, none⟩ = some (bdv gk gf go gb gm)
  cmy : Z.cell? ⟨gmy, 0, none⟩ = some (.slice s may.length ca)
  cad : Z.cell? ⟨gad, 0, none⟩ = some (adv gbd gout gmy gad)
  n1 : gbd ≠ K ∧ gbd ≠ gout
  n2 : gmy ≠ K ∧ gmy ≠ gout
  n3 : gad ≠ K ∧ gad ≠ gout
  n4 : gk ≠ gout ∧ gb ≠ gout ∧ K ≠ gout
  vo : V.heap.size ≤ gout
  zo : gout < Z.heap.size
structure AdW (Z w : World) (may : List Spl) (st : List Int) (K gout : Nat) (out : List Spl) : Prop where
  chg : Chg [K, gout] Z w
  kn : KnM w K may st
  row : ∃ v, Blk w gout [v] 23 ∧ w.ownsRow Z.heap.size 58 10 v out.length (flat out)
theorem AdW.bw {V Z w : World} {may : List Spl} {st : List Int} {s : Option Addr} {ca gf go gm F O K gk gb gbd gout gmy gad : Nat} {out : List Spl} (A : AdS V Z may st s ca gf go gm F O K gk gb gbd gout gmy gad) (h : AdW Z w may st K gout out) : BdW V w may st gf go gm K gk gb :=
  ⟨A.bz.below.trans (h.chg.below A.bz.below.size (by have := A.S.vK; have := A.vo; simp; omega)), h.chg.cell A.bz.ck (by have := A.S.n1; have := A.n4; simp; omega), h.chg.cell A.bz.cb (by have := A.S.n2; have := A.n4; simp; omega), h.kn⟩
theorem AdW.step {V Z w w' : World} {may : List Spl} {st : List Int} {s : Option Addr} {ca gf go gm F O K gk gb gbd gout gmy gad : Nat} {out : List Spl} (A : AdS V Z may st s ca gf go gm F O K gk gb gbd gout gmy gad) (h : AdW Z w may st K gout out) (hx : ExtK K may st w w') : AdW Z w' may st K gout out := by
  obtain ⟨v, h1, h2⟩ := h.row
  refine ⟨h.chg.trans (hx.1.mono (by simp)), hx.2 h.kn, v, h1.chg hx.1 (by have := A.n4.2.2; simp; omega), own_chg h2 hx.1 fun b hb => ?_⟩
  obtain ⟨_, _, _, hge⟩ := own_slice h2
  have := hge b hb
  have := A.bz.kn.lt
  simp; omega
theorem infoSpl : (Try.prog.info? 58).map (fun i => (i.zero, i.size, i.bytes)) = some (some (.agg #[.int .i64 0, .int .i64 0, .bool false, .slice none 0 0, .bool false, .slice none 0 0, .bool false, .slice none 0 0, .bool false, .slice none 0 0]), 10, 144) := by kernel_rfl
theorem hTspl2 : Try.prog.underlying 23 = some (.slice 58) := by kernel_rfl
theorem infoSl1 : (Try.prog.info? 23).map (·.size) = some 1 := by kernel_rfl
theorem cells_one (x : Spl) : ∀ u ∈ x.cells, u.oneCell' = true := by
  intro u hu
  unfold Spl.cells at hu
  simp at hu
  rcases hu with h | h | h | h | h | h | h | h | h | h <;> (subst h; rfl)
/-- what a call that adds to the list leaves as it was -/
structure Rw (K gout : Nat) (w w' : World) : Prop where
  size : w.heap.size ≤ w'.heap.size
  own : ∀ v', w'.cell? ⟨gout, 0, none⟩ = some v' → ∀ b, v'.ownBlock = some b → (∃ v, w.cell? ⟨gout, 0, none⟩ = some v ∧ v.ownBlock = some b) ∨ w.heap.size ≤ b
  keep : ∀ g, g < w.heap.size → g ≠ K → g ≠ gout → (∀ v, w.cell? ⟨gout, 0, none⟩ = some v → v.ownBlock ≠ some g) → w'.heap[g]? = w.heap[g]?
theorem Rw.refl (K gout : Nat) (w : World) : Rw K gout w w := ⟨Nat.le_refl _, fun v h b hb => .inl ⟨v, h, hb⟩, fun _ _ _ _ _ => rfl⟩
theorem Rw.trans {K gout : Nat} {a b c : World} (h : Rw K gout a b) (k : Rw K gout b c) : Rw K gout a c :=
  ⟨Nat.le_trans h.size k.size, fun v' h1 q hq => by
    rcases k.own v' h1 q hq with ⟨v, h2, h3⟩ | h2
    · exact h.own v h2 q h3
    · exact .inr (Nat.le_trans h.size h2), fun g hg h1 h2 h3 => (k.keep g (Nat.lt_of_lt_of_le hg h.size) h1 h2 fun v hv e => by
      rcases h.own v hv g e with ⟨u, h4, h5⟩ | h4
      · exact h3 u h4 h5
      · omega).trans (h.keep g hg h1 h2 h3)⟩
theorem Rw.of {K gout : Nat} {w w' : World} (h : Chg [K] w w') (h1 : gout ≠ K) (h2 : gout < w.heap.size) : Rw K gout w w' :=
  ⟨h.size, fun v' h3 b hb => .inl ⟨v', by
    rw [← h3]
    exact (World.cell?_of_block (w := w) (w' := w') (a := ⟨gout, 0, none⟩) (h.block gout h2 (by simpa using h1))).symm, hb⟩, fun g hg h3 _ _ => h.block g hg (by simpa using h3)⟩
theorem Rw.put {K gout : Nat} {w w1 w2 : World} {v v' : Value} {t : TypeId} (hv : w.cell? ⟨gout, 0, none⟩ = some v) (h1 : w.grownBy w1 v.ownBlock) (h2 : ∀ b, v'.ownBlock = some b → v.ownBlock = some b ∨ w.heap.size ≤ b) (h3 : Oth gout w1 w2) (h4 : Blk w2 gout [v'] t) : Rw K gout w w2 :=
  ⟨by rw [h3.size]; exact h1.size, fun u hu b hb => by
    rw [h4.cell (i := 0) rfl] at hu
    cases hu
    rcases h2 b hb with h5 | h5
    · exact .inl ⟨v, hv, h5⟩
    · exact .inr h5, fun g hg _ hgo hn => (h3.block g hgo).trans (h1.block g hg fun e => hn v hv e.symm)⟩
structure AdQ (Z : World) (may : List Spl) (st : List Int) (K gout : Nat) (w : World) (out : List Spl) (e : Ending) (w' : World) : Prop where
  val : ∃ v, e = .returned v
  st' : AdW Z w' may st K gout out
  rw' : Rw K gout w w'
attribute [local irreducible] SqC.SqW
set_option maxRecDepth 100000 in
set_option maxHeartbeats 6400000 in
theorem add_any {V Z : World} {may : List Spl} {st : List Int} {s : Option Addr} {ca gf go gm F O K gk gb gbd gout gmy gad : Nat} (A : AdS V Z may st s ca gf go gm F O K gk gb gbd gout gmy gad) :
    ∀ (n m : Nat), m < n → 1 ≤ m → m < 65536 → ∀ (w : World) (out : List Spl), out.length + Go.Theory.pop m ≤ 100 → AdW Z w may st K gout out →
    Calls Try.prog 36 #[.int .i64 (m : Int), .pointer (some ⟨gbd, 0, none⟩), .pointer (some ⟨gout, 0, none⟩), .pointer (some ⟨gmy, 0, none⟩), .pointer (some ⟨gad, 0, none⟩)] w fun e w' => AdQ Z may st K gout w (out ++ tre may st n m) e w' := by
  intro n
  induction n with
  | zero => intro m hm; omega
  | succ n ih =>
  intro m hm hm1 hm6 w out hlen hw
  have hbd := (build_any A.S m hm6 w (hw.bw A)).mono (R' := fun e w' => e = .returned (.tuple #[bv (bb may st m), .bool (decide (0 ≤ (bb may st m).2))]) ∧ AdW Z w' may st K gout out ∧ Rw K gout w w') fun e w' h => ⟨h.val, hw.step A h.ext, Rw.of h.ext.1 (fun e => A.n4.2.2 e.symm) (Nat.lt_of_lt_of_le A.zo hw.chg.size)⟩
  have hcb : w.cell? ⟨gbd, 0, none⟩ = some (bdv gk gf go gb gm) := hw.chg.cell A.cbd (by have := A.n1; simp; omega)
  have hneg := tre_neg (may := may) (st := st) (n := n) (s := m)
  have hpos := tre_step (may := may) (st := st) (n := n) A.S.ok hm6
  obtain ⟨b, hb⟩ : ∃ b, b = bb may st m := ⟨_, rfl⟩
  rw [← hb] at hbd hneg hpos
  obtain ⟨b1, b2⟩ := b
  simp only [bv] at hbd
  dsimp only at hneg hpos
  clear hb hw
  have HBD := Lib.hid hbd; clear hbd
  have HNEG := Lib.hid hneg; clear hneg
  have HPOS := Lib.hid hpos; clear hpos
  have HA := Lib.hid A; clear A
  have IH := Lib.hid ih; clear ih
  have HLEN := Lib.hid hlen; clear hlen
  have HM := Lib.hid (And.intro hm (And.intro hm1 hm6)); clear hm hm1 hm6
  by_cases h0 : 0 ≤ b1
  · have hn : (0 ≤ b1) = True := eq_true h0
    obtain ⟨i, p, r, rfl, hil, hxw, hxp, hxr, hpm, hrm, htr, hpop, -, -, -, hp1, hr1⟩ := HPOS.out h0
    clear h0
    have hil' : (i : Int) < may.length := by omega
    have hbp := fun (u : World) (l : List Spl) (hl : l.length + Go.Theory.pop p ≤ 100) (hu : AdW Z u may st K gout l) => IH.out p (by have := HM.out.1; omega) hp1 (by have := HM.out.2.2; omega) u l hl hu
    have hbr := fun (u : World) (l : List Spl) (hl : l.length + Go.Theory.pop r ≤ 100) (hu : AdW Z u may st K gout l) => IH.out r (by have := HM.out.1; omega) hr1 (by have := HM.out.2.2; omega) u l hl hu
    have hlp := tre_len (st := st) HA.out.S.ok n p hp1 (by have := HM.out.2.2; omega)
    have hpp := Go.Order.pop_pos hr1 (by have := HM.out.2.2; omega)
    have hpq := Go.Order.pop_pos hp1 (by have := HM.out.2.2; omega)
    obtain ⟨Tp, hTp⟩ : ∃ T, T = tre may st n p := ⟨_, rfl⟩
    obtain ⟨Tr, hTr⟩ : ∃ T, T = tre may st n r := ⟨_, rfl⟩
    rw [← hTp, ← hTr] at htr
    rw [← hTp] at hlp
    rw [← hTp] at hbp
    rw [← hTr] at hbr
    have hatV : (may[i]).At V := HA.out.S.may'.at' _ (List.getElem_mem hil)
    obtain ⟨g2, o2, rfl, -, -, -, hC2, hg2⟩ := HA.out.S.may'.at (by omega)
    have cA := Lst.cells hC2 hil
    have hrest := rest_any may[i]
    rw [hxr] at hrest
    obtain ⟨x, hx⟩ : ∃ x, x = may[i] := ⟨_, rfl⟩
    rw [← hx] at hrest cA hxp hxw htr
    have hone := cells_one x
    have hfl : flat [x] = x.cells := by unfold flat; simp
    clear hx hxr hC2 hTp hTr hatV
    obtain ⟨zw, zp, ⟨na, da, sa, ya⟩, ⟨nb, db, sb, yb⟩, ⟨nc, dc, sc, yc⟩, ⟨nd, dd, sd, yd⟩⟩ := x
    dsimp only at hxp hxw
    subst hxp hxw
    have hrest' : ∀ U : World, Calls Try.prog 37 #[.agg #[.int .i64 (m : Int), .int .i64 (p : Int), .bool na, .slice sa da.length ya, .bool nb, .slice sb db.length yb, .bool nc, .slice sc dc.length yc, .bool nd, .slice sd dd.length yd]] U fun e w' => e = .returned (.int .i64 (r : Int)) ∧ Below U.heap.size U w' := fun U => hrest U
    have hone' : ∀ u ∈ ([.int .i64 (m : Int), .int .i64 (p : Int), .bool na, .slice sa da.length ya, .bool nb, .slice sb db.length yb, .bool nc, .slice sc dc.length yc, .bool nd, .slice sd dd.length yd] : List Value), u.oneCell' = true := hone
    obtain ⟨xx, hxx⟩ : ∃ xx : Spl, xx = ⟨(m : Int), (p : Int), ⟨na, da, sa, ya⟩, ⟨nb, db, sb, yb⟩, ⟨nc, dc, sc, yc⟩, ⟨nd, dd, sd, yd⟩⟩ := ⟨_, rfl⟩
    rw [← hxx] at htr hfl
    have hfl' : flat [xx] = [.int .i64 (m : Int), .int .i64 (p : Int), .bool na, .slice sa da.length ya, .bool nb, .slice sb db.length yb, .bool nc, .slice sc dc.length yc, .bool nd, .slice sd dd.length yd] := by rw [hfl, hxx]; rfl
    clear hrest hone hfl hxx
    have hfacts : ∀ U, Chg [K, gout] Z U → U.cell? ⟨gad, 0, none⟩ = some (.func (.func 36) #[] #[.pointer (some ⟨gbd, 0, none⟩), .pointer (some ⟨gout, 0, none⟩), .pointer (some ⟨gmy, 0, none⟩), .pointer (some ⟨gad, 0, none⟩)]) ∧ U.cell? ⟨gmy, 0, none⟩ = some (.slice (some ⟨g2, o2, none⟩) may.length ca) ∧ U.cell? ⟨g2, o2 + i * 10 + 1, none⟩ = some (.int .i64 (p : Int)) ∧ Cells U g2 (o2 + i * 10) [.int .i64 (m : Int), .int .i64 (p : Int), .bool na, .slice sa da.length ya, .bool nb, .slice sb db.length yb, .bool nc, .slice sc dc.length yc, .bool nd, .slice sd dd.length yd] ∧ (loadVar 58 ⟨g2, o2 + i * 10, none⟩).run Try.prog U = .ok (.agg #[.int .i64 (m : Int), .int .i64 (p : Int), .bool na, .slice sa da.length ya, .bool nb, .slice sb db.length yb, .bool nc, .slice sc dc.length yc, .bool nd, .slice sd dd.length yd]) U := fun U hU => by
      have hb : Below V.heap.size V U := HA.out.bz.below.trans (hU.below HA.out.bz.below.size (by have := HA.out.S.vK; have := HA.out.vo; simp; omega))
      have h := cA.below hb hg2
      exact ⟨hU.cell HA.out.cad (by have := HA.out.n3; simp; omega), hU.cell HA.out.cmy (by have := HA.out.n2; simp; omega), h 1 _ rfl, h, run_load_agg (P := Try.prog) (ty := 58) h aggS infoS⟩
    have HFA := Lib.hid hfacts; clear hfacts cA hg2
    have HRE := Lib.hid hrest'; clear hrest'
    have HONE := Lib.hid hone'; clear hone'
    have HTR := Lib.hid htr; clear htr
    have HFL := Lib.hid hfl'; clear hfl'
    have HBP := Lib.hid hbp; clear hbp
    have HBR := Lib.hid hbr; clear hbr
    have HLP := Lib.hid (And.intro hlp (And.intro hpop (And.intro hpp hpq))); clear hlp hpop hpp hpq
    clear hpm hrm hp1 hr1
    unfold bdv at hcb
    go_enter Try.func36, Try.ntmps36
    go_wp2_with (fail)
    refine HBD.out.mono ?_
    rintro e w1 ⟨rfl, hw1, hr1⟩
    obtain ⟨W2, hW2⟩ : ∃ W2, W2 = w1.alloc (.cells #[.int .i64 (i : Int), .int .i64 b2] 69) := ⟨_, rfl⟩
    have hx2 : Blk W2 w1.heap.size [.int .i64 (i : Int), .int .i64 b2] 69 := by rw [hW2]; exact Blk.new w1 #[.int .i64 (i : Int), .int .i64 b2] 69
    have hw2 : AdW Z W2 may st K gout out := hw1.step HA.out (ExtK.of (by rw [hW2]; exact alloc_below _ _))
    have hz1 : Z.heap.size ≤ w1.heap.size := hw1.chg.size
    have hr2 : Rw K gout w W2 := hr1.trans (Rw.of (Chg.of_below (by rw [hW2]; exact alloc_below _ _)) (fun e => HA.out.n4.2.2 e.symm) (Nat.lt_of_lt_of_le HA.out.zo hw1.chg.size))
    have HR2 := Lib.hid hr2; clear hr2 hr1
    have hgo1 : ∀ v xs, w1.ownsRow Z.heap.size 58 10 v out.length xs → ∀ b, v.ownBlock = some b → b < w1.heap.size := fun v xs h b hb => own_lt h hb
    have HW2 := Lib.hid hw2; clear hw2
    have HX2 := Lib.hid hx2; clear hx2
    have HZ1 := Lib.hid hz1; clear hz1
    have HW1 := Lib.hid hw1; clear hw1
    have hWE := Lib.hid hW2; clear hW2 hgo1 hcb
    go_wp2
    rw [← hWE.out]
    obtain ⟨vo, hvo, hrow⟩ := HW2.out.row
    obtain ⟨so, co, rfl, hge⟩ := own_slice hrow
    have hltr : ∀ b, (Value.slice so out.length co).ownBlock = some b → b < w1.heap.size := fun b hb => by
      obtain ⟨vq, hvq, hrq⟩ := HW1.out.row
      have e : vq = .slice so out.length co := by
        have h1 := hvq.cell (i := 0) rfl
        have hb1 : Below w1.heap.size w1 W2 := by rw [hWE.out]; exact alloc_below _ _
        have h2 := (hvq.below hb1 hvq.lt).cell (i := 0) rfl
        rw [hvo.cell (i := 0) rfl] at h2
        exact (Option.some.inj h2).symm
      rw [e] at hrq
      exact own_lt hrq hb
    have eX : W2.drew.cell? ⟨gout, 0, none⟩ = some (.slice so out.length co) ∧ W2.drew.cell? ⟨w1.heap.size, 0, none⟩ = some (.int .i64 (i : Int)) ∧ Chg [K, gout] Z W2.drew := ⟨hvo.drew.cell rfl, HX2.out.drew.cell rfl, HW2.out.chg.drew⟩
    haveI : Nonempty (SqC.Come fun U : World => U.cell? ⟨gout, 0, none⟩ = some (.slice so out.length co) ∧ U.cell? ⟨w1.heap.size, 0, none⟩ = some (.int .i64 (i : Int)) ∧ Chg [K, gout] Z U) := ⟨⟨_, eX⟩⟩
    refine SqC.wp_region_sqc 9 [6, 7, 8] (fun U : World => U.cell? ⟨gout, 0, none⟩ = some (.slice so out.length co) ∧ U.cell? ⟨w1.heap.size, 0, none⟩ = some (.int .i64 (i : Int)) ∧ Chg [K, gout] Z U) (by kernel_rfl) (by kernel_rfl) (by kernel_rfl) eX ?_
    have kd : Below W2.heap.size W2 W2.drew := (Below.refl _ _).drew
    obtain ⟨wd, hwd⟩ : ∃ wd : World, wd = W2.drew := ⟨_, rfl⟩
    rw [← hwd] at eX kd ⊢
    clear hwd
    have EX := Lib.hid eX; clear eX
    have KD := Lib.hid kd; clear kd
    have HVO := Lib.hid hvo; clear hvo
    have HROW := Lib.hid hrow; clear hrow
    have HGE := Lib.hid hge; clear hge
    have HLT := Lib.hid hltr; clear hltr
    refine SqC.value (.slice so out.length co) rfl rfl (by intro U hU; have cx := hU.1; go_simp) ?_
    simp only [Act.put, List.setIfInBounds_toArray, List.set_cons_zero, List.set_cons_succ]
    refine SqC.value (.slice (some ⟨g2, o2, none⟩) may.length ca) rfl rfl (by intro U hU; have cx := (HFA.out U hU.2.2).2.1; go_simp) ?_
    simp only [Act.put, List.setIfInBounds_toArray, List.set_cons_zero, List.set_cons_succ]
    refine SqC.quiet rfl rfl ?_; go_big_quiet_step (fail); refine wpQuiet_nil ?_
    refine SqC.value (.int .i64 (i : Int)) rfl rfl (by intro U hU; have cx := hU.2.1; go_simp) ?_
    simp only [Act.put, List.setIfInBounds_toArray, List.set_cons_zero, List.set_cons_succ]
    refine SqC.quiet rfl rfl ?_; go_big_quiet_step (fail); refine wpQuiet_nil ?_
    refine SqC.value (.agg #[.int .i64 (m : Int), .int .i64 (p : Int), .bool na, .slice sa da.length ya, .bool nb, .slice sb db.length yb, .bool nc, .slice sc dc.length yc, .bool nd, .slice sd dd.length yd]) rfl rfl (fun U hU => load_agg_exec rfl rfl (HFA.out U hU.2.2).2.2.2.2) ?_
    simp only [Act.put, List.setIfInBounds_toArray, List.set_cons_zero, List.set_cons_succ]
    refine SqC.effectW rfl rfl ?_
    obtain ⟨w8, hw8⟩ : ∃ w8 : World, w8 = wd.alloc (.cells #[.int .i64 (m : Int), .int .i64 (p : Int), .bool na, .slice sa da.length ya, .bool nb, .slice sb db.length yb, .bool nc, .slice sc dc.length yc, .bool nd, .slice sd dd.length yd] 58) := ⟨_, rfl⟩
    have b8 : Below wd.heap.size wd w8 := by rw [hw8]; exact alloc_below _ _
    have k8 : Blk w8 wd.heap.size [.int .i64 (m : Int), .int .i64 (p : Int), .bool na, .slice sa da.length ya, .bool nb, .slice sb db.length yb, .bool nc, .slice sc dc.length yc, .bool nd, .slice sd dd.length yd] 58 := by rw [hw8]; exact Blk.new wd #[.int .i64 (m : Int), .int .i64 (p : Int), .bool na, .slice sa da.length ya, .bool nb, .slice sb db.length yb, .bool nc, .slice sc dc.length yc, .bool nd, .slice sd dd.length yd] 58
    have HW8 := Lib.hid hw8; clear hw8
    have B8 := Lib.hid b8; clear b8
    have K8 := Lib.hid k8; clear k8
    go_wp2
    rw [← HW8.out]
    have b28 : Below W2.heap.size W2 w8 := KD.out.trans (B8.out.mono KD.out.size)
    have ex8 : w8.cell? ⟨gout, 0, none⟩ = some (.slice so out.length co) ∧ w8.cell? ⟨w1.heap.size, 0, none⟩ = some (.int .i64 (i : Int)) ∧ Chg [K, gout] Z w8 := ⟨(HVO.out.below b28 HVO.out.lt).cell rfl, (HX2.out.below b28 HX2.out.lt).cell rfl, HW2.out.chg.trans (Chg.of_below b28)⟩
    refine SqC.here rfl (fun _ => ex8) ?_
    have row8 := own_below HROW.out b28
    have hlen6 := HLEN.out
    refine SqC.effectW rfl rfl ?_
    refine wpList_append_where rfl _ _ 23 rfl Z.heap.size 58 _ 10 144 hTspl2 infoSpl rfl (by decide) _ _ (flat out) rfl row8 ⟨wd.heap.size, 0, none⟩ 1 1 [.int .i64 (m : Int), .int .i64 (p : Int), .bool na, .slice sa da.length ya, .bool nb, .slice sb db.length yb, .bool nc, .slice sc dc.length yc, .bool nd, .slice sd dd.length yd] rfl rfl (by
        intro j u hj
        rw [Addr.add_lit, Nat.zero_add]; exact K8.out.cell hj) HONE.out (by simp only [maxLen]; omega) (by omega) (by have := HZ1.out; have := EX.out.2.2.size; have := B8.out.size; omega) ?_
    intro v' w9 h1 h2 h3
    have hne : ∀ b, (Value.slice so out.length co).ownBlock = some b → Z.heap.size ≤ b ∧ b < w1.heap.size := fun b hb => ⟨HGE.out b hb, HLT.out b hb⟩
    have ch9 : Chg [K, gout] Z w9 := ex8.2.2.grown h2 (fun b hb => (hne b hb).1)
    have go9 : Blk w9 gout [.slice so out.length co] 23 := (HVO.out.below b28 HVO.out.lt).grown h2 (fun e => by have := (hne _ e.symm).1; have := HA.out.zo; omega)
    have gx9 : Blk w9 w1.heap.size [.int .i64 (i : Int), .int .i64 b2] 69 := (HX2.out.below b28 HX2.out.lt).grown h2 (fun e => by have := (hne _ e.symm).2; omega)
    have kn9 : KnM w9 K may st := by
      obtain ⟨f, ⟨mm, q1, q2⟩, q3⟩ := HW2.out.kn.below b28
      exact ⟨f, ⟨mm, q1.grown h2 (fun e => by have := (hne _ e.symm).1; have := HA.out.bz.kn.lt; omega), q2⟩, q3⟩
    have hput := fun (w10 : World) (k1 : Oth gout w9 w10) (k2 : Blk w10 gout [v'] 23) => Rw.put (K := K) ex8.1 h2 h3 k1 k2
    have hr8 : Rw K gout w w8 := HR2.out.trans (Rw.of (Chg.of_below b28) (fun e => HA.out.n4.2.2 e.symm) HVO.out.lt)
    have HPUT := Lib.hid hput; clear hput
    have HR8 := Lib.hid hr8; clear hr8
    have hnx : v'.ownBlock ≠ some w1.heap.size := fun e => by
      rcases h3 _ e with h5 | h5
      · exact absurd (hne _ h5).2 (Nat.lt_irrefl _)
      · have := HX2.out.lt; have := b28.size; omega
    have HNX := Lib.hid hnx; clear hnx
    have row9 : w9.ownsRow Z.heap.size 58 10 v' (out ++ [xx]).length (flat (out ++ [xx])) := by
      rw [flat_app, HFL.out, List.length_append]; exact h1
    have G9 := Lib.hid go9; clear go9
    have X9 := Lib.hid gx9; clear gx9
    have KN9 := Lib.hid kn9; clear kn9
    have CH9 := Lib.hid ch9; clear ch9
    have ROW9 := Lib.hid row9; clear row9 h1 h2 h3 hne row8 ex8 b28
    go_wp2
    refine SqC.here rfl (fun _ => ⟨G9.out.cell rfl, X9.out.cell rfl, CH9.out⟩) ?_
    obtain ⟨s9, c9, rfl, hge9⟩ := own_slice ROW9.out
    have HGE9 := Lib.hid hge9; clear hge9
    refine SqC.effectW rfl rfl ?_
    refine wpList_store1 (ty := 23) (v := .slice s9 (out ++ [xx]).length c9) G9.out rfl rfl rfl rfl rfl infoSl1 rfl (Nat.zero_lt_succ _) rfl ?_
    intro w10 k1 k2
    have c10 : Chg [gout] w9 w10 := Chg.of_oth k2 (by simp)
    have aw : AdW Z w10 may st K gout (out ++ [xx]) := ⟨CH9.out.trans (c10.mono (by simp)), KN9.out.chg c10 (by have := HA.out.n4.2.2; simp; omega), _, k1, own_chg ROW9.out c10 fun b hb => by have := HGE9.out b hb; have := HA.out.zo; simp; omega⟩
    have x10 : Blk w10 w1.heap.size [.int .i64 (i : Int), .int .i64 b2] 69 := X9.out.chg c10 (by have := HZ1.out; have := HA.out.zo; simp; omega)
    have hr10 : Rw K gout w w10 := HR8.out.trans (HPUT.out w10 k2 k1)
    have HR10 := Lib.hid hr10; clear hr10 HPUT HR8 HR2
    have xne : ∀ v, Blk w10 gout [v] 23 → v.ownBlock ≠ some w1.heap.size := fun v hv e => by
      have h5 := hv.cell (i := 0) rfl
      rw [k1.cell (i := 0) rfl] at h5
      cases h5
      exact HNX.out e
    have XNE := Lib.hid xne; clear xne
    have AW := Lib.hid aw; clear aw
    have X10 := Lib.hid x10; clear x10 k1 k2 c10
    clear G9 X9 KN9 CH9 ROW9 HGE9 HW8 B8 K8 EX KD HVO HROW HGE HLT HW2 HX2
    go_wp2
    refine SqC.here rfl (by intro h; first | exact h.elim | exact absurd rfl h) (SqC.nil ?_)
    clear this
    have hc10 : ∀ U, Below w10.heap.size w10 U → U.cell? ⟨w1.heap.size, 0, none⟩ = some (.int .i64 (i : Int)) ∧ Chg [K, gout] Z U := fun U hU => ⟨(X10.out.below hU X10.out.lt).cell rfl, AW.out.chg.trans (Chg.of_below hU)⟩
    have HC10 := Lib.hid hc10; clear hc10
    go_wp2
    have eX : Below w10.heap.size w10 w10.drew := (Below.refl _ _).drew
    haveI : Nonempty (SqC.Come fun U : World => Below w10.heap.size w10 U) := ⟨⟨_, eX⟩⟩
    refine SqC.wp_region_sqc 8 [7] (fun U : World => Below w10.heap.size w10 U) (by kernel_rfl) (by kernel_rfl) (by kernel_rfl) eX ?_
    have awd : AdW Z w10.drew may st K gout (out ++ [xx]) := AW.out.step HA.out (ExtK.of eX)
    have xd : Blk w10.drew w1.heap.size [.int .i64 (i : Int), .int .i64 b2] 69 := X10.out.drew
    obtain ⟨wd2, hwd⟩ : ∃ wd : World, wd = w10.drew := ⟨_, rfl⟩
    rw [← hwd] at eX awd xd ⊢
    clear hwd
    have AWD := Lib.hid awd; clear awd
    have xno : ∀ v, wd2.cell? ⟨gout, 0, none⟩ = some v → v.ownBlock ≠ some w1.heap.size := fun v hv e => by
      obtain ⟨vq, hvq, hrq⟩ := AW.out.row
      have h1 := (hvq.below eX hvq.lt).cell (i := 0) rfl
      rw [hv] at h1
      cases h1
      have := XNE.out _ hvq
      exact this e
    have XNO := Lib.hid xno; clear xno
    have XD := Lib.hid xd; clear xd
    refine SqC.value (.func (.func 36) #[] #[.pointer (some ⟨gbd, 0, none⟩), .pointer (some ⟨gout, 0, none⟩), .pointer (some ⟨gmy, 0, none⟩), .pointer (some ⟨gad, 0, none⟩)]) rfl rfl (by intro U hU; have cx := (HFA.out U (HC10.out U hU).2).1; go_simp) ?_
    simp only [Act.put, List.setIfInBounds_toArray, List.set_cons_zero, List.set_cons_succ]
    refine SqC.value (.slice (some ⟨g2, o2, none⟩) may.length ca) rfl rfl (by intro U hU; have cx := (HFA.out U (HC10.out U hU).2).2.1; go_simp) ?_
    simp only [Act.put, List.setIfInBounds_toArray, List.set_cons_zero, List.set_cons_succ]
    refine SqC.quiet rfl rfl ?_; go_big_quiet_step (fail); refine wpQuiet_nil ?_
    refine SqC.value (.int .i64 (i : Int)) rfl rfl (by intro U hU; have cx := (HC10.out U hU).1; go_simp) ?_
    simp only [Act.put, List.setIfInBounds_toArray, List.set_cons_zero, List.set_cons_succ]
    refine SqC.quiet rfl rfl ?_; go_big_quiet_step (fail); refine wpQuiet_nil ?_
    refine SqC.quiet rfl rfl ?_; go_big_quiet_step (fail); refine wpQuiet_nil ?_
    refine SqC.value (.int .i64 (p : Int)) rfl rfl (by intro U hU; have cx := (HFA.out U (HC10.out U hU).2).2.2.1; go_simp) ?_
    simp only [Act.put, List.setIfInBounds_toArray, List.set_cons_zero, List.set_cons_succ]
    refine SqC.effect rfl rfl ?_
    refine yields_closure (f := 36) (lb := #[.pointer (some ⟨gbd, 0, none⟩), .pointer (some ⟨gout, 0, none⟩), .pointer (some ⟨gmy, 0, none⟩), .pointer (some ⟨gad, 0, none⟩)]) (args := #[.int .i64 (p : Int)]) rfl (by kernel_rfl) rfl rfl ((HBP.out wd2 (out ++ [xx]) (by have := HLP.out; have := HLEN.out; rw [List.length_append]; simp; omega) AWD.out).mono ?_)
    rintro e w11 ⟨⟨v11, rfl⟩, hw11, hr11⟩
    have x11 : Blk w11 w1.heap.size [.int .i64 (i : Int), .int .i64 b2] 69 := by
      have h := XD.out
      unfold Blk at h ⊢
      rw [hr11.keep w1.heap.size XD.out.lt (by have := HW1.out.kn.lt; omega) (by have := HZ1.out; have := HA.out.zo; omega) XNO.out]
      exact h
    have hr11' : Rw K gout w w11 := (HR10.out.trans (Rw.of (Chg.of_below eX) (fun e => HA.out.n4.2.2 e.symm) (Nat.lt_of_lt_of_le HA.out.zo AW.out.chg.size))).trans hr11
    have HR11 := Lib.hid hr11'; clear hr11' hr11
    refine ⟨_, rfl, fun h => absurd rfl h, ?_⟩
    simp only [Act.put, List.setIfInBounds_toArray, List.set_cons_zero, List.set_cons_succ]
    have AW11 := Lib.hid hw11; clear hw11
    have X11 := Lib.hid x11; clear x11
    refine SqC.nil ?_
    clear this eX AW X10 HC10 AWD XD XNO HR10
    clear wd2
    have hc11 : ∀ U, Below w11.heap.size w11 U → U.cell? ⟨w1.heap.size, 0, none⟩ = some (.int .i64 (i : Int)) ∧ Chg [K, gout] Z U := fun U hU => ⟨(X11.out.below hU X11.out.lt).cell rfl, AW11.out.chg.trans (Chg.of_below hU)⟩
    have HC11 := Lib.hid hc11; clear hc11
    go_wp2
    have eX : Below w11.heap.size w11 w11.drew := (Below.refl _ _).drew
    haveI : Nonempty (SqC.Come fun U : World => Below w11.heap.size w11 U) := ⟨⟨_, eX⟩⟩
    refine SqC.wp_region_sqc 8 [6, 7] (fun U : World => Below w11.heap.size w11 U) (by kernel_rfl) (by kernel_rfl) (by kernel_rfl) eX ?_
    obtain ⟨wd3, hwd⟩ : ∃ wd : World, wd = w11.drew := ⟨_, rfl⟩
    rw [← hwd] at eX ⊢
    clear hwd
    refine SqC.value (.func (.func 36) #[] #[.pointer (some ⟨gbd, 0, none⟩), .pointer (some ⟨gout, 0, none⟩), .pointer (some ⟨gmy, 0, none⟩), .pointer (some ⟨gad, 0, none⟩)]) rfl rfl (by intro U hU; have cx := (HFA.out U (HC11.out U hU).2).1; go_simp) ?_
    simp only [Act.put, List.setIfInBounds_toArray, List.set_cons_zero, List.set_cons_succ]
    refine SqC.value (.slice (some ⟨g2, o2, none⟩) may.length ca) rfl rfl (by intro U hU; have cx := (HFA.out U (HC11.out U hU).2).2.1; go_simp) ?_
    simp only [Act.put, List.setIfInBounds_toArray, List.set_cons_zero, List.set_cons_succ]
    refine SqC.quiet rfl rfl ?_; go_big_quiet_step (fail); refine wpQuiet_nil ?_
    refine SqC.value (.int .i64 (i : Int)) rfl rfl (by intro U hU; have cx := (HC11.out U hU).1; go_simp) ?_
    simp only [Act.put, List.setIfInBounds_toArray, List.set_cons_zero, List.set_cons_succ]
    refine SqC.quiet rfl rfl ?_; go_big_quiet_step (fail); refine wpQuiet_nil ?_
    refine SqC.value (.agg #[.int .i64 (m : Int), .int .i64 (p : Int), .bool na, .slice sa da.length ya, .bool nb, .slice sb db.length yb, .bool nc, .slice sc dc.length yc, .bool nd, .slice sd dd.length yd]) rfl rfl (fun U hU => load_agg_exec rfl rfl (HFA.out U (HC11.out U hU).2).2.2.2.2) ?_
    simp only [Act.put, List.setIfInBounds_toArray, List.set_cons_zero, List.set_cons_succ]
    refine SqC.effect rfl rfl ?_
    refine yields_call rfl (by kernel_rfl) rfl rfl ((HRE.out wd3).mono ?_)
    rintro e w12 ⟨rfl, b12⟩
    have e12 : Below w11.heap.size w11 w12 := eX.trans (b12.mono eX.size)
    refine ⟨_, rfl, fun _ => e12, ?_⟩
    simp only [Act.put, List.setIfInBounds_toArray, List.set_cons_zero, List.set_cons_succ]
    have aw12 : AdW Z w12 may st K gout (out ++ [xx] ++ Tp) := AW11.out.step HA.out (ExtK.of e12)
    refine SqC.effect rfl rfl ?_
    refine yields_closure (f := 36) (lb := #[.pointer (some ⟨gbd, 0, none⟩), .pointer (some ⟨gout, 0, none⟩), .pointer (some ⟨gmy, 0, none⟩), .pointer (some ⟨gad, 0, none⟩)]) (args := #[.int .i64 (r : Int)]) rfl (by kernel_rfl) rfl rfl ((HBR.out w12 (out ++ [xx] ++ Tp) (by have := HLP.out; have := HLEN.out; rw [List.length_append, List.length_append]; simp; omega) aw12).mono ?_)
    rintro e w13 ⟨⟨v13, rfl⟩, hw13, hr13⟩
    have hr13' : Rw K gout w w13 := (HR11.out.trans (Rw.of (Chg.of_below e12) (fun e => HA.out.n4.2.2 e.symm) (Nat.lt_of_lt_of_le HA.out.zo AW11.out.chg.size))).trans hr13
    refine ⟨_, rfl, fun h => absurd rfl h, ?_⟩
    simp only [Act.put, List.setIfInBounds_toArray, List.set_cons_zero, List.set_cons_succ]
    refine SqC.nil ?_
    have HF := Lib.hid (And.intro hw13 hr13'); clear hw13 hr13 hr13' aw12 e12 b12 eX this
    go_wp2
    go_end0
    refine ⟨⟨_, rfl⟩, ?_, HF.out.2⟩
    rw [HTR.out]
    have := HF.out.1
    rwa [List.append_assoc, List.append_assoc] at this
  · have hn : (0 ≤ b1) = False := eq_false h0
    have htr := HNEG.out h0
    have HTR := Lib.hid htr; clear htr h0
    unfold bdv at hcb
    go_enter Try.func36, Try.ntmps36
    go_wp2_with (fail)
    refine HBD.out.mono ?_
    rintro e w1 ⟨rfl, hw1, hr1⟩
    have hr2 : Rw K gout w (w1.alloc (.cells #[.int .i64 b1, .int .i64 b2] 69)) := hr1.trans (Rw.of (Chg.of_below (alloc_below _ _)) (fun e => HA.out.n4.2.2 e.symm) (Nat.lt_of_lt_of_le HA.out.zo hw1.chg.size))
    have HR2 := Lib.hid hr2; clear hr2 hr1
    have hw2 : AdW Z (w1.alloc (.cells #[.int .i64 b1, .int .i64 b2] 69)) may st K gout out := hw1.step HA.out (ExtK.of (alloc_below _ _))
    have HW2 := Lib.hid hw2; clear hw2 hw1
    clear hcb
    go_wp2
    go_end0
    exact ⟨⟨_, rfl⟩, by rw [HTR.out, List.append_nil]; exact HW2.out, HR2.out⟩
end Go.Proofs.Ytnkinjilnccmfaa
