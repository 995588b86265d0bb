/- order: changed: a list of splits with one left out, twice, made another one, or two exchanged. -/
import Derived.Test.YtnkinjilnccmfaaL3
import Derived.Test.YtnkinjilnccmfaaReg
import Derived.Deep.DeepAppendRoom
namespace Go.Proofs.Ytnkinjilnccmfaa
open Go.RowKit Go.Own Go.BigFrame Go.Big Go.Order Go.Shelf
/-- what changed returns -/
structure ChQ (l : List Spl) (w : World) (e : Ending) (w' : World) : Prop where
  out : ∃ (l' : List Spl) (s' : Option Addr) (c' : Nat), e = .returned (.slice s' l'.length c') ∧ Lst w' (.slice s' l'.length c') l' ∧ l'.length ≤ l.length + 1 ∧ Below w.heap.size w w'
theorem chq_own {l l' : List Spl} {w w' : World} {base : Nat} {v : Value} (h : w'.ownsRow base 58 10 v l'.length (flat l')) (ha : ∀ x ∈ l', x.At w') (hn : l'.length ≤ l.length + 1) (hb : Below w.heap.size w w') : ChQ l w (.returned v) w' := by
  obtain ⟨s, c, rfl, _⟩ := own_slice h
  exact ⟨l', s, c, rfl, ⟨Sl.of_owns h, ha⟩, hn, hb⟩
/-- a row of splits of one's own, as a block -/
theorem own_spl_blk {w : World} {base : Nat} {v : Value} {l : List Spl} (h : w.ownsRow base 58 10 v l.length (flat l)) (hn : 0 < l.length) :
    ∃ g cap tl, v = .slice (some ⟨g, 0, none⟩) l.length cap ∧ base ≤ g ∧ l.length ≤ cap ∧ cap ≤ maxLen ∧ tl.length + l.length * 10 = cap * 10 ∧ Blk w g (flat l ++ tl) 58 := by
  rcases h.2 with ⟨_, h0⟩ | ⟨g, cap, cur, rfl, hg, hgg, hn1, hm, hs, ht⟩
  · omega
  · refine ⟨g, cap, cur.toList.drop (l.length * 10), rfl, hg, hn1, hm, ?_, ?_⟩
    · rw [List.length_drop, Array.length_toList, hs]; omega
    · rw [← ht, List.take_append_drop]; unfold Blk; rw [hgg]
theorem blk_own {w : World} {base g cap : Nat} {l : List Spl} {tl : List Value} (hB : Blk w g (flat l ++ tl) 58) (hg : base ≤ g) (hc : l.length ≤ cap) (hm : cap ≤ maxLen) (ht : tl.length + l.length * 10 = cap * 10) :
    w.ownsRow base 58 10 (.slice (some ⟨g, 0, none⟩) l.length cap) l.length (flat l) := by
  refine ⟨flat_len l, .inr ⟨g, cap, (flat l ++ tl).toArray, rfl, hg, hB, hc, hm, ?_, ?_⟩⟩
  · simp [flat_len]; omega
  · rw [List.toList_toArray, List.take_append_of_le_length (by rw [flat_len]; omega), List.take_of_length_le (by rw [flat_len]; omega)]
theorem cells_len (x : Spl) : x.cells.length = 10 := rfl
theorem fit10 {l : List Spl} {tl : List Value} {i : Nat} (h : i < l.length) : i * 10 + 10 ≤ (flat l ++ tl).length := by rw [List.length_append, flat_len]; omega
theorem infoSet1' : (Try.prog.info? 22).map (·.size) = some 1 := by kernel_rfl
theorem add_zero10 (a : Option Addr) : a.map (·.add (0 * 10)) = a := by cases a <;> simp [Addr.add]
theorem sl_upto (a : Option Addr) (len cap k : Nat) (hk : k ≤ cap) (w : World) : (Instr.sliceAt 23 (.slice a len cap) none (some (.int .i64 (k : Int))) none).run Try.prog w = .ok (.slice a k cap) w := by
  rw [run_sliceAt_slice w _ _ _ _ _ hTspl, run_slice_h w _ a len cap hTspl .i64 (k : Int) (by omega) (by omega), sizeSpl]
  simp only [Result.andThen, sliced, Int.toNat_natCast, add_zero10, ite_self, Nat.sub_zero]
/-- the part of one split is set -/
theorem flat_setP {l : List Spl} {i : Nat} (h : i < l.length) (tl : List Value) (q : Int) : (flat l ++ tl).take (i * 10 + 1) ++ [.int .i64 q] ++ (flat l ++ tl).drop (i * 10 + 1 + 1) = flat (l.set i { l[i] with p := q }) ++ tl := by
  have e1 : l = l.take i ++ (l[i] :: l.drop (i + 1)) := by rw [← List.drop_eq_getElem_cons h, List.take_append_drop]
  have e2 : l.set i { l[i] with p := q } = l.take i ++ ({ l[i] with p := q } :: l.drop (i + 1)) := List.set_eq_take_append_cons_drop.trans (if_pos h)
  have e3 : (flat (l.take i)).length = i * 10 := by rw [flat_len, List.length_take, Nat.min_eq_left (Nat.le_of_lt h)]
  have e4 : flat l = flat (l.take i) ++ (l[i].cells ++ flat (l.drop (i + 1))) := by
    conv => lhs; rw [e1]
    rw [flat_app, flat_cons]
  rw [e2, e4, flat_app, flat_cons]
  generalize l[i] = x at *
  rw [← e3]
  generalize flat (l.take i) = A
  generalize flat (l.drop (i + 1)) = B
  have e5 : x.cells = [.int .i64 x.w, .int .i64 x.p] ++ [.bool x.a.n, x.a.sl, .bool x.b.n, x.b.sl, .bool x.c.n, x.c.sl, .bool x.d.n, x.d.sl] := rfl
  have e6 : ({ x with p := q } : Spl).cells = [.int .i64 x.w, .int .i64 q] ++ [.bool x.a.n, x.a.sl, .bool x.b.n, x.b.sl, .bool x.c.n, x.c.sl, .bool x.d.n, x.d.sl] := rfl
  rw [e5, e6]
  generalize [Value.bool x.a.n, x.a.sl, .bool x.b.n, x.b.sl, .bool x.c.n, x.c.sl, .bool x.d.n, x.d.sl] = D
  have h1 : A.length + 1 - A.length = 1 := by omega
  have h2 : A.length + 1 + 1 - A.length = 2 := by omega
  have h3 : List.take (A.length + 1) A = A := List.take_of_length_le (by omega)
  have h4 : List.drop (A.length + 1 + 1) A = [] := List.drop_eq_nil_of_le (by omega)
  rw [List.append_assoc A, List.take_append, List.drop_append, h1, h2, h3, h4]
  simp
/-- one split is set -/
theorem flat_setS {l : List Spl} {i : Nat} (h : i < l.length) (tl : List Value) (y : Spl) : (flat l ++ tl).take (i * 10) ++ y.cells ++ (flat l ++ tl).drop (i * 10 + 10) = flat (l.set i y) ++ tl := by
  have e1 : l = l.take i ++ (l[i] :: l.drop (i + 1)) := by rw [← List.drop_eq_getElem_cons h, List.take_append_drop]
  have e2 : l.set i y = l.take i ++ (y :: l.drop (i + 1)) := List.set_eq_take_append_cons_drop.trans (if_pos h)
  have e3 : (flat (l.take i)).length = i * 10 := by rw [flat_len, List.length_take, Nat.min_eq_left (Nat.le_of_lt h)]
  have e4 : flat l = flat (l.take i) ++ (l[i].cells ++ flat (l.drop (i + 1))) := by
    conv => lhs; rw [e1]
    rw [flat_app, flat_cons]
  rw [e2, e4, flat_app, flat_cons]
  have e5 : (l[i].cells).length = 10 := rfl
  rw [← e3]
  generalize flat (l.take i) = A
  generalize flat (l.drop (i + 1)) = B
  generalize l[i].cells = D at *
  rw [List.append_assoc A, List.take_append, List.drop_append]
  simp [e5]
attribute [local irreducible] SqC.SqW
set_option maxRecDepth 100000 in
set_option maxHeartbeats 6400000 in
theorem changed_any (l : List Spl) (how : Int) (hh : -9223372036854775808 ≤ how ∧ how < 9223372036854775808) (s : Option Addr) (ca : Nat) (w : World) (hl : Lst w (.slice s l.length ca) l) (hn : l.length < 1000000) :
    Calls Try.prog 16 #[.slice s l.length ca, .int .i64 how] w fun e w' => ChQ l w e w' := by
  by_cases h0 : l.length = 0
  · have hz : ((l.length : Int) == 0) = true := by rw [h0]; rfl
    go_enter Try.func16, Try.ntmps16
    go_wp2
    go_ret
    exact ⟨[], none, 0, rfl, lst_nil _, by simp, Below.refl _ _⟩
  · have hz : ((l.length : Int) == 0) = false := by rw [beq_eq_false_iff_ne]; omega
    have hq1 : -9223372036854775808 ≤ how.tdiv 4 ∧ how.tdiv 4 < 9223372036854775808 := by
      rcases Int.lt_or_le how 0 with h | h
      · rw [show how = -(-how) by omega, Int.neg_tdiv, Int.tdiv_eq_ediv_of_nonneg (by omega)]; omega
      · rw [Int.tdiv_eq_ediv_of_nonneg h]; omega
    have ha1 := around_any (how.tdiv 4) l.length hq1 (by omega) w
    have ha2 := fun U => around_any how 4 hh (by decide) U
    obtain ⟨i, hi, hil⟩ := around_rg (how.tdiv 4) (n := l.length) (by omega)
    obtain ⟨r, hr, hr4⟩ := around_rg how (n := 4) (by decide)
    rw [hi] at ha1
    rw [show ((4 : Nat) : Int) = 4 from rfl] at hr
    rw [hr] at ha2
    clear hi hr
    have HL := Lib.hid hl; clear hl
    have HN := Lib.hid hn; clear hn
    have HA1 := Lib.hid ha1; clear ha1
    have HA2 := Lib.hid ha2; clear ha2
    go_enter Try.func16, Try.ntmps16
    go_wp2_with (fail)
    refine HA1.out.mono ?_
    rintro e w1 ⟨rfl, rfl⟩
    have hS := HL.out.sl.alloc (.cells #[] 58)
    have hO := World.ownsRow_made (e := 58) (size := 10) w1 #[] 0 (Nat.le_refl _) (by decide) (by simp)
    go_wp2_with (refine wpList_append_sl rfl _ _ 23 rfl w1.heap.size 58 _ 10 144 hTspl2 infoSpl rfl (by decide) _ 0 [] rfl hO _ l.length (flat l) rfl hS (flat_one l) (by have := HN.out; rw [Nat.zero_add]; unfold maxLen; omega) (by have := HN.out; omega) (by simp) ?_)
    intro v2 w2 h1 h2
    have b2 : Below w1.heap.size w1 w2 := grown_below (alloc_below w1 (.cells #[] 58)) hO h2 (by simp)
    obtain ⟨g, cap, tl, rfl, hg, hcap, hmx, htl, hB⟩ := own_spl_blk h1 (by omega)
    have hAt : ∀ x ∈ l, x.At w2 := fun x hx => (HL.out.at' x hx).below b2
    have HB2 := Lib.hid b2; clear b2 hO hS h2
    have H1 := Lib.hid h1; clear h1
    have HB := Lib.hid hB; clear hB
    have HAT := Lib.hid hAt; clear hAt
    have HTL := Lib.hid htl; clear htl
    have HCP := Lib.hid hcap; clear hcap
    have HMX := Lib.hid hmx; clear hmx
    have HG := Lib.hid hg; clear hg
    have HIL := Lib.hid hil; clear hil
    go_wp2_with (fail)
    refine (HA2.out w2).mono ?_
    rintro e w3 ⟨rfl, rfl⟩
    have hr4' : r = 0 ∨ r = 1 ∨ r = 2 ∨ r = 3 := by omega
    clear hr4
    rcases hr4' with rfl | rfl | rfl | rfl
    · have hil := HIL.out
      have hcap := HCP.out
      have hs1 : ∀ U : World, (Instr.sliceAt 23 (.slice (some ⟨g, 0, none⟩) l.length cap) none (some (.int .i64 (i : Int))) none).run Try.prog U = .ok (.slice (some ⟨g, 0, none⟩) i cap) U := fun U => sl_upto _ _ _ _ (by omega) U
      have hc1 : (i : Int) + 1 = ((i + 1 : Nat) : Int) := by omega
      have hi3 : (i : Int) < 4611686018427387904 := by have := HN.out; omega
      have hs2 : ∀ U : World, (Instr.sliceAt 23 (.slice (some ⟨g, 0, none⟩) l.length cap) (some (.int .i64 ((i : Int) + 1))) none none).run Try.prog U = .ok (.slice (dropA (some ⟨g, 0, none⟩) cap (i + 1)) (l.length - (i + 1)) (cap - (i + 1))) U := fun U => by rw [hc1]; exact sl_from _ _ _ (i + 1) hil U
      have HC1 := Lib.hid hc1; clear hc1
      have HS1 := Lib.hid hs1; clear hs1
      have HS2 := Lib.hid hs2; clear hs2
      clear hil hcap
      go_wp2_with (fail)
      have eX : Below w1.heap.size w1 w3.drew := HB2.out.drew
      haveI : Nonempty (SqC.Come fun U : World => Below w1.heap.size w1 U) := ⟨⟨_, eX⟩⟩
      refine SqC.wp_region_sqc 9 [7] (fun U : World => Below w1.heap.size w1 U) (by kernel_rfl) (by kernel_rfl) (by kernel_rfl) eX ?_
      refine SqC.quiet rfl rfl ?_; go_big_quiet_step (fail); refine wpQuiet_nil ?_
      refine SqC.quiet rfl rfl ?_; go_big_quiet_step (fail); refine wpQuiet_nil ?_
      refine SqC.value (.slice (some ⟨g, 0, none⟩) i cap) rfl rfl (by intro U hU; have cx := HS1.out U; go_simp) ?_
      simp only [Act.put, List.setIfInBounds_toArray, List.set_cons_zero, List.set_cons_succ]
      refine SqC.quiet rfl rfl ?_; go_big_quiet_step (fail); refine wpQuiet_nil ?_
      refine SqC.quiet rfl rfl ?_; go_big_quiet_step (fail); refine wpQuiet_nil ?_
      refine SqC.quiet rfl rfl ?_; go_big_quiet_step (fail); refine wpQuiet_nil ?_
      refine SqC.value (.slice (dropA (some ⟨g, 0, none⟩) cap (i + 1)) (l.length - (i + 1)) (cap - (i + 1))) rfl rfl (by intro U hU; have cx := HS2.out U; go_simp) ?_
      simp only [Act.put, List.setIfInBounds_toArray, List.set_cons_zero, List.set_cons_succ]
      refine SqC.effectW rfl rfl ?_
      obtain ⟨ad, had, hcl⟩ : ∃ ad, dropA (some ⟨g, 0, none⟩) cap (i + 1) = some ad ∧ ∀ j u, (flat (l.drop (i + 1)))[j]? = some u → w3.drew.cell? (ad.add j) = some u := by
        unfold dropA
        by_cases hce : cap = i + 1
        · rw [if_pos hce]
          refine ⟨_, rfl, fun j u hj => ?_⟩
          have h9 : l.drop (i + 1) = [] := List.drop_eq_nil_of_le (by have := HCP.out; omega)
          rw [h9] at hj
          simp [flat] at hj
        · rw [if_neg hce]
          refine ⟨⟨g, (i + 1) * 10, none⟩, by rw [Option.map_some, Addr.add_lit, Nat.zero_add], fun j u hj => ?_⟩
          rw [Addr.add_lit]
          show w3.cell? ⟨g, (i + 1) * 10 + j, none⟩ = some u
          refine HB.out.cell (i := (i + 1) * 10 + j) ?_
          have h9 : flat l = flat (l.take (i + 1)) ++ flat (l.drop (i + 1)) := by rw [← flat_app, List.take_append_drop]
          have h8 : (flat (l.take (i + 1))).length = (i + 1) * 10 := by rw [flat_len, List.length_take, Nat.min_eq_left HIL.out]
          rw [h9, List.append_assoc, List.getElem?_append_right (by omega), h8, Nat.add_sub_cancel_left, List.getElem?_append_left (List.getElem?_eq_some_iff.1 hj).1]
          exact hj
      have hlt : (l.take i).length = i := by rw [List.length_take, Nat.min_eq_left (Nat.le_of_lt HIL.out)]
      have hld : (l.drop (i + 1)).length = l.length - (i + 1) := List.length_drop
      have hown : w3.drew.ownsRow w1.heap.size 58 10 (.slice (some ⟨g, 0, none⟩) i cap) i (flat (l.take i)) := by
        have hB : Blk w3 g (flat (l.take i) ++ (flat (l.drop i) ++ tl)) 58 := by rw [← List.append_assoc, ← flat_app, List.take_append_drop]; exact HB.out
        have := blk_own hB HG.out (by rw [hlt]; have := HCP.out; have := HIL.out; omega) HMX.out (by rw [hlt, List.length_append, flat_len, List.length_drop]; have := HTL.out; have := HIL.out; omega)
        rw [hlt] at this
        exact this
      have hi := infoSpl
      rw [Option.map_eq_some_iff] at hi
      obtain ⟨i0, hi0, he⟩ := hi
      injection he with e1 e2
      injection e2 with e2 e3
      refine wpList_append_own_spare w3.drew rfl _ _ 23 rfl w1.heap.size 58 i0 10 hTspl2 hi0 e2 g i cap _ rfl hown ad (l.length - (i + 1)) (cap - (i + 1)) (flat (l.drop (i + 1))) (congrArg (fun q => Value.slice q (l.length - (i + 1)) (cap - (i + 1))) had) (by rw [flat_len, hld]) hcl (flat_one _) (by have := HCP.out; have := HIL.out; omega) ?_
      intro w4 h4 g4
      have hb4 : Below w1.heap.size w1 w4 := by
        have := HB2.out
        exact (this.drew).grown g4 this.size (fun k hk => by cases hk; exact HG.out)
      refine wpList_nil (SqC.here rfl (fun _ => hb4) ?_)
      simp only [Act.put, List.setIfInBounds_toArray, List.set_cons_zero, List.set_cons_succ]
      refine SqC.quiet rfl rfl ?_; go_big_quiet_step (fail); refine wpQuiet_nil ?_
      refine SqC.nil ?_
      have hAt4 : ∀ x ∈ l, x.At w4 := fun x hx => (HL.out.at' x hx).below hb4
      have e9 : flat (l.take i) ++ flat (l.drop (i + 1)) = flat (l.take i ++ l.drop (i + 1)) := (flat_app _ _).symm
      have e8 : (l.take i ++ l.drop (i + 1)).length = i + (l.length - (i + 1)) := by rw [List.length_append, hlt, hld]
      rw [e9, ← e8] at h4
      have H4 := Lib.hid h4; clear h4
      rw [← e8]
      have e7 : (l.take i ++ l.drop (i + 1)).length ≤ l.length + 1 := by rw [e8]; have := HIL.out; omega
      obtain ⟨l', hl'⟩ : ∃ l', l' = l.take i ++ l.drop (i + 1) := ⟨_, rfl⟩
      have hAt5 : ∀ x ∈ l', x.At w4 := fun x hx => by
        rw [hl'] at hx
        rcases List.mem_append.1 hx with h | h
        · exact hAt4 x (List.mem_of_mem_take h)
        · exact hAt4 x (List.mem_of_mem_drop h)
      rw [← hl'] at H4 e7 ⊢
      clear hl' e9 e8 hAt4 had hcl hlt hld hown g4 hi0 e1 e2 e3 eX
      have HB4 := Lib.hid hb4; clear hb4
      go_wp2
      go_ret
      exact chq_own H4.out hAt5 e7 HB4.out
    · obtain ⟨x, hx⟩ : ∃ x, x = l[i]'HIL.out := ⟨_, rfl⟩
      obtain ⟨gl, o, rfl, _, _, _, hC, hgl⟩ := (HL.out).at (by omega)
      have hq : ∀ j v, x.cells[j]? = some v → w3.cell? ⟨gl, o + i * 10 + j, none⟩ = some v := fun j v hj => by
        rw [hx] at hj
        exact (HB2.out.cell (p := ⟨gl, o + i * 10 + j, none⟩) hgl).trans (hC i j v HIL.out hj)
      have hnew : flat l ++ x.cells = flat (l ++ [x]) := by rw [flat_app]; unfold flat; simp
      have hone : ∀ u ∈ x.cells, u.oneCell' = true := cells_one x
      have hxm : x ∈ l := by rw [hx]; exact List.getElem_mem _
      have HNEW := Lib.hid hnew; clear hnew
      have HXM := Lib.hid hxm; clear hxm
      have HX2 : Hid (∀ U, U = x → True) := Lib.hid fun _ _ => trivial
      clear HX2
      clear hx hC
      have hil' : (i : Int) < l.length := by have := HIL.out; omega
      obtain ⟨x0, hx0⟩ : ∃ x0, x0 = x := ⟨_, rfl⟩
      have HX0 := Lib.hid hx0; clear hx0
      obtain ⟨m, p, ⟨na, da, sa, ya⟩, ⟨nb, db, sb, yb⟩, ⟨nc, dc, sc, yc⟩, ⟨nd, dd, sd, yd⟩⟩ := x
      have k0 : w3.cell? ⟨gl, o + i * 10, none⟩ = some (.int .i64 m) := by have := hq 0 _ rfl; simpa using this
      have k1 : w3.cell? ⟨gl, o + i * 10 + 1, none⟩ = some (.int .i64 p) := by have := hq 1 _ rfl; simpa using this
      have k2 : w3.cell? ⟨gl, o + i * 10 + 2, none⟩ = some (.bool na) := by have := hq 2 _ rfl; simpa using this
      have k3 : w3.cell? ⟨gl, o + i * 10 + 3, none⟩ = some (.slice sa da.length ya) := by have := hq 3 _ rfl; simpa [Num.sl] using this
      have k4 : w3.cell? ⟨gl, o + i * 10 + 4, none⟩ = some (.bool nb) := by have := hq 4 _ rfl; simpa using this
      have k5 : w3.cell? ⟨gl, o + i * 10 + 5, none⟩ = some (.slice sb db.length yb) := by have := hq 5 _ rfl; simpa [Num.sl] using this
      have k6 : w3.cell? ⟨gl, o + i * 10 + 6, none⟩ = some (.bool nc) := by have := hq 6 _ rfl; simpa using this
      have k7 : w3.cell? ⟨gl, o + i * 10 + 7, none⟩ = some (.slice sc dc.length yc) := by have := hq 7 _ rfl; simpa [Num.sl] using this
      have k8 : w3.cell? ⟨gl, o + i * 10 + 8, none⟩ = some (.bool nd) := by have := hq 8 _ rfl; simpa using this
      have k9 : w3.cell? ⟨gl, o + i * 10 + 9, none⟩ = some (.slice sd dd.length yd) := by have := hq 9 _ rfl; simpa [Num.sl] using this
      have HONE := Lib.hid hone; clear hone
      clear hq
      obtain ⟨w8, hw8⟩ : ∃ w8 : World, w8 = w3.alloc (.cells #[.int .i64 m, .int .i64 p, .bool na, .slice sa da.length ya, .bool nb, .slice sb db.length yb, .bool nc, .slice sc dc.length yc, .bool nd, .slice sd dd.length yd] 58) := ⟨_, rfl⟩
      have b8 : Below w3.heap.size w3 w8 := by rw [hw8]; exact alloc_below _ _
      have kb8 : Blk w8 w3.heap.size [.int .i64 m, .int .i64 p, .bool na, .slice sa da.length ya, .bool nb, .slice sb db.length yb, .bool nc, .slice sc dc.length yc, .bool nd, .slice sd dd.length yd] 58 := by rw [hw8]; exact Blk.new w3 #[.int .i64 m, .int .i64 p, .bool na, .slice sa da.length ya, .bool nb, .slice sb db.length yb, .bool nc, .slice sc dc.length yc, .bool nd, .slice sd dd.length yd] 58
      have row8 := own_below H1.out b8
      have bw8 : Below w1.heap.size w1 w8 := HB2.out.trans (b8.mono HB2.out.size)
      have hk8 : ∀ (j : Nat) (u : Value), [.int .i64 m, .int .i64 p, .bool na, .slice sa da.length ya, .bool nb, .slice sb db.length yb, .bool nc, .slice sc dc.length yc, .bool nd, .slice sd dd.length yd][j]? = some u → w8.cell? ((⟨w3.heap.size, 0, none⟩ : Addr).add j) = some u := fun j u hj => by
        rw [Addr.add_lit, Nat.zero_add]; exact kb8.cell hj
      have hz8 := bw8.size
      have HB8 := Lib.hid bw8; clear bw8
      have row8' := row8
      have HROW8 := Lib.hid row8'; clear row8'
      rw [hw8] at row8 hk8 hz8
      have HROW := Lib.hid row8; clear row8
      have HK8 := Lib.hid hk8; clear hk8
      have HZ8 := Lib.hid hz8; clear hz8
      have HW8 := Lib.hid hw8; clear hw8 b8 kb8
      go_wp2_with (refine wpList_append_where rfl _ _ 23 rfl w1.heap.size 58 _ 10 144 hTspl2 infoSpl rfl (by decide) _ l.length _ rfl HROW.out ⟨w3.heap.size, 0, none⟩ 1 1 [.int .i64 m, .int .i64 p, .bool na, .slice sa da.length ya, .bool nb, .slice sb db.length yb, .bool nc, .slice sc dc.length yc, .bool nd, .slice sd dd.length yd] rfl rfl HK8.out HONE.out (by have := HN.out; simp only [maxLen]; omega) (by have := HN.out; omega) HZ8.out ?_)
      intro v' w9 h2 h3 _
      rw [← HW8.out] at h3
      have bw9 : Below w1.heap.size w1 w9 := by
        refine HB8.out.grown h3 HB8.out.size fun b hb => ?_
        exact (HROW8.out.lt b hb).1
      obtain ⟨l', hl'⟩ : ∃ l', l' = l ++ [x0] := ⟨_, rfl⟩
      have e8 : l'.length = l.length + 1 := by rw [hl', List.length_append]; rfl
      have e9 : w9.ownsRow w1.heap.size 58 10 v' l'.length (flat l') := by
        rw [e8, hl', HX0.out, ← HNEW.out]; exact h2
      have hAt5 : ∀ x ∈ l', x.At w9 := fun x hx => by
        rw [hl'] at hx
        refine (HL.out.at' x ?_).below bw9
        rcases List.mem_append.1 hx with h | h
        · exact h
        · rw [List.mem_singleton] at h; rw [h, HX0.out]; exact HXM.out
      have e7 : l'.length ≤ l.length + 1 := by rw [e8]; exact Nat.le_refl _
      have E9 := Lib.hid e9
      have BW9 := Lib.hid bw9
      clear h2 h3 e9 bw9 hl' e8
      go_wp2
      go_ret
      exact chq_own E9.out hAt5 e7 BW9.out
    · obtain ⟨x, hx⟩ : ∃ x, x = l[i]'HIL.out := ⟨_, rfl⟩
      have hq : ∀ j v, x.cells[j]? = some v → w3.cell? ⟨g, i * 10 + j, none⟩ = some v := fun j v hj => by
        refine HB.out.cell ?_
        have hj9 : j < 10 := (List.getElem?_eq_some_iff.1 hj).1
        rw [List.getElem?_append_left (by rw [flat_len]; have := HIL.out; omega), flat_at HIL.out hj9, ← hx]
        exact hj
      have k0 : w3.cell? ⟨g, i * 10, none⟩ = some (.int .i64 x.w) := by have := hq 0 _ rfl; simpa using this
      have k1 : w3.cell? ⟨g, i * 10 + 1, none⟩ = some (.int .i64 x.p) := by have := hq 1 _ rfl; simpa using this
      have hil' : (i : Int) < l.length := by have := HIL.out; omega
      have hset := flat_setP HIL.out tl x.rest
      rw [← hx] at hset
      have hAtx : ∀ U, Below w1.heap.size w1 U → x.At U := fun U hU => (HL.out.at' x (by rw [hx]; exact List.getElem_mem _)).below hU
      have HSET := Lib.hid hset; clear hset
      have HATX := Lib.hid hAtx; clear hAtx
      have hxr : bits .andNot .i64 x.w x.p = x.rest := rfl
      obtain ⟨xw, hxw⟩ : ∃ xw, xw = x.w := ⟨_, rfl⟩
      obtain ⟨xp, hxp⟩ : ∃ xp, xp = x.p := ⟨_, rfl⟩
      obtain ⟨xr, hxr2⟩ : ∃ xr, xr = x.rest := ⟨_, rfl⟩
      rw [← hxw] at k0 hxr
      rw [← hxp] at k1 hxr
      rw [← hxr2] at hxr
      have HXR2 := Lib.hid hxr2
      clear hxw hxp hxr2 hx hq
      go_wp2_with (fail)
      have eX : Below w1.heap.size w1 w3.drew ∧ w3.drew.cell? ⟨g, i * 10, none⟩ = some (.int .i64 xw) ∧ w3.drew.cell? ⟨g, i * 10 + 1, none⟩ = some (.int .i64 xp) := ⟨HB2.out.drew, k0, k1⟩
      haveI : Nonempty (SqC.Come (fun U : World => Below w1.heap.size w1 U ∧ U.cell? ⟨g, i * 10, none⟩ = some (.int .i64 xw) ∧ U.cell? ⟨g, i * 10 + 1, none⟩ = some (.int .i64 xp))) := ⟨⟨_, eX⟩⟩
      refine SqC.wp_region_sqc 16 [15] (fun U : World => Below w1.heap.size w1 U ∧ U.cell? ⟨g, i * 10, none⟩ = some (.int .i64 xw) ∧ U.cell? ⟨g, i * 10 + 1, none⟩ = some (.int .i64 xp)) (by kernel_rfl) (by kernel_rfl) (by kernel_rfl) eX ?_
      refine SqC.quiet rfl rfl ?_; go_big_quiet_step (fail); refine wpQuiet_nil ?_
      refine SqC.quiet rfl rfl ?_; go_big_quiet_step (fail); refine wpQuiet_nil ?_
      refine SqC.quiet rfl rfl ?_; go_big_quiet_step (fail); refine wpQuiet_nil ?_
      refine SqC.quiet rfl rfl ?_; go_big_quiet_step (fail); refine wpQuiet_nil ?_
      refine SqC.quiet rfl rfl ?_; go_big_quiet_step (fail); refine wpQuiet_nil ?_
      refine SqC.quiet rfl rfl ?_; go_big_quiet_step (fail); refine wpQuiet_nil ?_
      refine SqC.value (.int .i64 xw) rfl rfl (by intro U hU; have cx := hU.2.1; go_simp) ?_
      simp only [Act.put, List.setIfInBounds_toArray, List.set_cons_zero, List.set_cons_succ]
      refine SqC.quiet rfl rfl ?_; go_big_quiet_step (fail); refine wpQuiet_nil ?_
      refine SqC.quiet rfl rfl ?_; go_big_quiet_step (fail); refine wpQuiet_nil ?_
      refine SqC.quiet rfl rfl ?_; go_big_quiet_step (fail); refine wpQuiet_nil ?_
      refine SqC.quiet rfl rfl ?_; go_big_quiet_step (fail); refine wpQuiet_nil ?_
      refine SqC.value (.int .i64 xp) rfl rfl (by intro U hU; have cx := hU.2.2; go_simp) ?_
      simp only [Act.put, List.setIfInBounds_toArray, List.set_cons_zero, List.set_cons_succ]
      refine SqC.quiet rfl rfl ?_; go_big_quiet_step (fail); refine wpQuiet_nil ?_
      refine SqC.quiet rfl rfl ?_; go_big_quiet_step (fail); refine wpQuiet_nil ?_
      refine SqC.quiet rfl rfl ?_; go_big_quiet_step (fail); refine wpQuiet_nil ?_
      refine SqC.effectW rfl rfl ?_
      refine wpList_store1 (ty := 22) (v := .int .i64 xr) (off := i * 10 + 1) (HB.out : Blk w3.drew g _ _) rfl rfl rfl rfl rfl infoSet1' rfl (by rw [List.length_append, flat_len]; have := HIL.out; omega) rfl ?_
      intro w4 hB4 ho4
      have hb4 : Below w1.heap.size w1 w4 := ho4.below HB2.out.drew HG.out
      refine wpList_nil (SqC.here rfl (fun h => absurd rfl h) (SqC.nil ?_))
      rw [HXR2.out, HSET.out] at hB4
      obtain ⟨y, hy⟩ : ∃ y : Spl, y = { x with p := x.rest } := ⟨_, rfl⟩
      obtain ⟨l', hl'⟩ : ∃ l', l' = l.set i y := ⟨_, rfl⟩
      have e8 : l'.length = l.length := by rw [hl', List.length_set]
      have hB5 : Blk w4 g (flat l' ++ tl) 58 := by rw [hl', hy]; exact hB4
      have h9 := blk_own hB5 HG.out (by rw [e8]; exact HCP.out) HMX.out (by rw [e8]; exact HTL.out)
      have hAt5 : ∀ x ∈ l', x.At w4 := fun z hz => by
        rw [hl'] at hz
        rcases List.mem_or_eq_of_mem_set hz with h | h
        · exact (HL.out.at' z h).below hb4
        · have := HATX.out w4 hb4
          rw [h, hy]; exact ⟨this.a, this.b, this.c, this.d⟩
      rw [e8] at h9
      have e7 : l'.length ≤ l.length + 1 := by rw [e8]; exact Nat.le_succ _
      have E9 := Lib.hid h9
      have BW9 := Lib.hid hb4
      have E8 := Lib.hid e8
      clear h9 hb4 hB5 hB4 ho4 hl' hy e8 eX k0 k1
      go_wp2
      go_ret
      exact chq_own (by rw [E8.out]; exact E9.out) hAt5 e7 BW9.out
    · obtain ⟨k, hk⟩ : ∃ k, k = (i + 1) % l.length := ⟨_, rfl⟩
      have hkl : k < l.length := by rw [hk]; exact Nat.mod_lt _ (by omega)
      have hrem : ((i : Int) + 1).tmod (l.length : Int) = (k : Int) := by
        rw [Int.tmod_eq_emod_of_nonneg (by omega), hk]; rfl
      obtain ⟨gl, o, rfl, _, _, _, hC, hgl⟩ := (HL.out).at (by omega)
      obtain ⟨x, hx⟩ : ∃ x, x = l[i]'HIL.out := ⟨_, rfl⟩
      obtain ⟨y, hy⟩ : ∃ y, y = l[k] := ⟨_, rfl⟩
      have hldx : ∀ U, Below w1.heap.size w1 U → (loadVar 58 ⟨gl, o + i * 10, none⟩).run Try.prog U = .ok x.v U := fun U hU => by
        refine run_load_agg (P := Try.prog) (ty := 58) (vs := x.cells) (fun j v hj => ?_) aggS infoS
        rw [hx] at hj
        exact (hU.cell (p := ⟨gl, o + i * 10 + j, none⟩) hgl).trans (hC i j v HIL.out hj)
      have hldy : ∀ U, Below w1.heap.size w1 U → (loadVar 58 ⟨gl, o + k * 10, none⟩).run Try.prog U = .ok y.v U := fun U hU => by
        refine run_load_agg (P := Try.prog) (ty := 58) (vs := y.cells) (fun j v hj => ?_) aggS infoS
        rw [hy] at hj
        exact (hU.cell (p := ⟨gl, o + k * 10 + j, none⟩) hgl).trans (hC k j v hkl hj)
      have hil' : (i : Int) < l.length := by have := HIL.out; omega
      have hkl' : (k : Int) < l.length := by omega
      have hset1 := flat_setS HIL.out tl y
      have hset2 := flat_setS (l := l.set i y) (i := k) (by rw [List.length_set]; exact hkl) tl x
      have hAtx : ∀ U, Below w1.heap.size w1 U → x.At U ∧ y.At U := fun U hU => ⟨(HL.out.at' x (by rw [hx]; exact List.getElem_mem _)).below hU, (HL.out.at' y (by rw [hy]; exact List.getElem_mem _)).below hU⟩
      have hwr : wrap64 ((i : Int) + 1) = (i : Int) + 1 := Go.IntWalk.wrap64_in _ (by have := HN.out; omega)
      have HSET1 := Lib.hid hset1; clear hset1
      have HSET2 := Lib.hid hset2; clear hset2
      have HATX := Lib.hid hAtx; clear hAtx
      have HLDX := Lib.hid hldx; clear hldx
      have HLDY := Lib.hid hldy; clear hldy
      have HKL := Lib.hid hkl
      have HREM := Lib.hid hrem
      have HCX : Hid (∀ u ∈ x.cells, u.oneCell' = true) := Lib.hid (cells_one x)
      have HCY : Hid (∀ u ∈ y.cells, u.oneCell' = true) := Lib.hid (cells_one y)
      clear hx hy hC hkl
      have HK := Lib.hid hk; clear hk
      go_wp2_with (fail)
      have eX : Below w1.heap.size w1 w3.drew := HB2.out.drew
      haveI : Nonempty (SqC.Come fun U : World => Below w1.heap.size w1 U) := ⟨⟨_, eX⟩⟩
      refine SqC.wp_region_sqc 16 [13, 15] (fun U : World => Below w1.heap.size w1 U) (by kernel_rfl) (by kernel_rfl) (by kernel_rfl) eX ?_
      refine SqC.quiet rfl rfl ?_; go_big_quiet_step (fail); refine wpQuiet_nil ?_
      refine SqC.quiet rfl rfl ?_; go_big_quiet_step (fail); refine wpQuiet_nil ?_
      refine SqC.quiet rfl rfl ?_; go_big_quiet_step (fail); refine wpQuiet_nil ?_
      refine SqC.quiet rfl rfl ?_; go_big_quiet_step (fail); refine wpQuiet_nil ?_
      refine SqC.quiet rfl rfl ?_; go_big_quiet_step (fail); refine wpQuiet_nil ?_
      refine SqC.quiet rfl rfl ?_; go_big_quiet_step (fail); refine wpQuiet_nil ?_
      refine SqC.quiet rfl rfl ?_; go_big_quiet_step (fail); refine wpQuiet_nil ?_
      refine SqC.value y.v rfl rfl (by intro U hU; exact load_agg_exec rfl rfl (HLDY.out U hU)) ?_
      simp only [Act.put, List.setIfInBounds_toArray, List.set_cons_zero, List.set_cons_succ]
      refine SqC.quiet rfl rfl ?_; go_big_quiet_step (fail); refine wpQuiet_nil ?_
      refine SqC.quiet rfl rfl ?_; go_big_quiet_step (fail); refine wpQuiet_nil ?_
      refine SqC.quiet rfl rfl ?_; go_big_quiet_step (fail); refine wpQuiet_nil ?_
      refine SqC.value x.v rfl rfl (by intro U hU; exact load_agg_exec rfl rfl (HLDX.out U hU)) ?_
      simp only [Act.put, List.setIfInBounds_toArray, List.set_cons_zero, List.set_cons_succ]
      refine SqC.quiet rfl rfl ?_; go_big_quiet_step (fail); refine wpQuiet_nil ?_
      refine SqC.effectW rfl rfl ?_
      refine wpList_store_blk (ty := 58) (vs := y.cells) (off := i * 10) (HB.out : Blk w3.drew g _ _) rfl rfl rfl rfl rfl infoS (cells_len y) (fit10 HIL.out) HCY.out ?_
      intro w4 hB4 ho4
      have hb4 : Below w1.heap.size w1 w4 := ho4.below HB2.out.drew HG.out
      refine wpList_nil (SqC.here rfl (fun _ => hb4) ?_)
      rw [HSET1.out] at hB4
      refine SqC.quiet rfl rfl ?_; go_big_quiet_step (fail); refine wpQuiet_nil ?_
      refine SqC.effectW rfl rfl ?_
      refine wpList_store_blk (ty := 58) (vs := x.cells) (off := k * 10) hB4 rfl rfl rfl rfl rfl infoS (cells_len x) (fit10 (by rw [List.length_set]; exact HKL.out)) HCX.out ?_
      intro w5 hB5 ho5
      have hb5 : Below w1.heap.size w1 w5 := ho5.below hb4 HG.out
      refine wpList_nil (SqC.here rfl (fun h => absurd rfl h) (SqC.nil ?_))
      rw [HSET2.out] at hB5
      obtain ⟨l', hl'⟩ : ∃ l', l' = (l.set i y).set k x := ⟨_, rfl⟩
      have e8 : l'.length = l.length := by rw [hl', List.length_set, List.length_set]
      rw [← hl'] at hB5
      have h9 := blk_own hB5 HG.out (by rw [e8]; exact HCP.out) HMX.out (by rw [e8]; exact HTL.out)
      have hAt5 : ∀ z ∈ l', z.At w5 := fun z hz => by
        rw [hl'] at hz
        rcases List.mem_or_eq_of_mem_set hz with h | h
        · rcases List.mem_or_eq_of_mem_set h with h | h
          · exact (HL.out.at' z h).below hb5
          · rw [h]; exact (HATX.out w5 hb5).2
        · rw [h]; exact (HATX.out w5 hb5).1
      rw [e8] at h9
      have e7 : l'.length ≤ l.length + 1 := by rw [e8]; exact Nat.le_succ _
      have E9 := Lib.hid h9
      have BW9 := Lib.hid hb5
      have E8 := Lib.hid e8
      clear h9 hb4 hb5 hB5 hB4 ho4 ho5 hl' e8 eX
      go_wp2
      go_ret
      exact chq_own (by rw [E8.out]; exact E9.out) hAt5 e7 BW9.out
end Go.Proofs.Ytnkinjilnccmfaa
