/- theory: how Bound compares two conflicts. -/
import Derived.Test.YtnkglahiagigoaaF10
namespace Go.Theory
open Go.RowKit Go.Own Go.Ib
def cmpI (x y : Int) : Int := if x < y then -1 else if y < x then 1 else 0
/-- the least weight of conflict i -/
def wt (wl l : List Int) (i : Nat) : Int := wmin wl (l.getD i 0).toNat 16
end Go.Theory
namespace Go.Proofs.Ytnkglahiagigoaa
open Go.RowKit Go.Own Go.Theory Go.BigFrame Go.Shelf
theorem isNaN_any (x : Int) (w : World) : Calls Try.prog 68 #[.int .i64 x] w fun e w' => e = .returned (.bool false) ∧ w' = w := by
  have h : (x != x) = false := by simp
  go_enter Try.func68, Try.ntmps68
  go_wp2
  go_ret
  exact ⟨rfl, rfl⟩
theorem compare_any (x y : Int) (w : World) : Calls Try.prog 45 #[.int .i64 x, .int .i64 y] w fun e w' => e = .returned (.int .i64 (cmpI x y)) ∧ w' = w := by
  obtain ⟨r, hr⟩ : ∃ r, r = cmpI x y := ⟨_, rfl⟩
  have HR := Lib.hid hr
  rw [← hr]
  clear hr
  go_enter Try.func45, Try.ntmps45
  go_wp2_with (fail)
  refine (isNaN_any x w).mono ?_
  rintro e w2 ⟨rfl, rfl⟩
  go_wp2_with (fail)
  refine (isNaN_any y w2).mono ?_
  rintro e w3 ⟨rfl, rfl⟩
  by_cases h1 : x < y
  · go_wp2
    go_ret
    rw [HR.out, cmpI, if_pos h1]
    exact ⟨rfl, rfl⟩
  · have h1' : y ≤ x := by omega
    by_cases h2 : y < x
    · have HR2 : Hid (r = 1) := Lib.hid (by rw [HR.out, cmpI, if_neg h1, if_pos h2])
      clear h1
      go_wp2
      go_ret
      rw [HR2.out]
      exact ⟨rfl, rfl⟩
    · have HR2 : Hid (r = 0) := Lib.hid (by rw [HR.out, cmpI, if_neg h1, if_neg h2])
      have h2' : x ≤ y := by omega
      clear h1 h2
      go_wp2
      go_ret
      rw [HR2.out]
      exact ⟨rfl, rfl⟩
/-- What the comparison reads. -/
structure BW (W : World) (pw pl : Nat) (nv mv : Value) (l wl : List Int) (sa wa : Option Addr) (cap wcap : Nat) : Prop where
  bw : Blk W pw [nv, mv, .slice sa l.length cap, .slice wa wl.length wcap] 61
  bl : Blk W pl [.slice sa l.length cap] 24
  sl : Sl W 1 (.slice sa l.length cap) l.length (l.map (.int .i64))
  sw : Sl W 1 (.slice wa wl.length wcap) wl.length (wl.map (.int .i64))
theorem BW.below {W W' : World} {pw pl : Nat} {nv mv : Value} {l wl : List Int} {sa wa : Option Addr} {cap wcap : Nat} (h : BW W pw pl nv mv l wl sa wa cap wcap) (hb : Below W.heap.size W W') : BW W' pw pl nv mv l wl sa wa cap wcap :=
  ⟨h.bw.below hb h.bw.lt, h.bl.below hb h.bl.lt, h.sl.below hb, h.sw.below hb⟩
theorem BW.drew {W : World} {pw pl : Nat} {nv mv : Value} {l wl : List Int} {sa wa : Option Addr} {cap wcap : Nat} (h : BW W pw pl nv mv l wl sa wa cap wcap) : BW W.drew pw pl nv mv l wl sa wa cap wcap := ⟨h.bw, h.bl, h.sl, h.sw⟩
attribute [local irreducible] SqC.SqW
set_option maxRecDepth 100000 in
theorem bcmp_any (a b : Nat) (pw pl : Nat) (nv mv : Value) (l wl : List Int) (sa wa : Option Addr) (cap wcap : Nat) (w : World) (H : BW w pw pl nv mv l wl sa wa cap wcap) (ha : a < l.length) (hb : b < l.length) (hlen : l.length ≤ 1000000)
    (hc : ∀ c ∈ l, ∃ m : Nat, c = m ∧ m < 2 ^ wl.length) (hn : wl.length ≤ 16) (hw : ∀ z ∈ wl, 0 ≤ z ∧ z ≤ 16384) :
    Calls Try.prog 44 #[.int .i64 a, .int .i64 b, .pointer (some ⟨pw, 0, none⟩), .pointer (some ⟨pl, 0, none⟩)] w fun e w' => e = .returned (.int .i64 (cmpI (wt wl l b) (wt wl l a))) ∧ Below w.heap.size w w' := by
  obtain ⟨ca, hca, hca2⟩ := hc _ (List.getElem_mem ha)
  obtain ⟨cb, hcb, hcb2⟩ := hc _ (List.getElem_mem hb)
  have hp2 := pow16 hn
  have wa1 : wt wl l a = wmin wl ca 16 := by unfold wt; simp [ha, hca]
  have wb1 : wt wl l b = wmin wl cb 16 := by unfold wt; simp [hb, hcb]
  rw [wa1, wb1]
  clear wa1 wb1
  have la := fun W (h : BW W pw pl nv mv l wl sa wa cap wcap) => pleast_any wl ca nv mv (.slice sa l.length cap) wa wcap (by omega) W h.sw (fun k hk => bits_of_lt hca2 hk) hw
  have lb := fun W (h : BW W pw pl nv mv l wl sa wa cap wcap) => pleast_any wl cb nv mv (.slice sa l.length cap) wa wcap (by omega) W h.sw (fun k hk => bits_of_lt hcb2 hk) hw
  obtain ⟨ra, hra⟩ : ∃ r, r = wmin wl ca 16 := ⟨_, rfl⟩
  obtain ⟨rb, hrb⟩ : ∃ r, r = wmin wl cb 16 := ⟨_, rfl⟩
  rw [← hra, ← hrb]
  simp only [← hra] at la
  simp only [← hrb] at lb
  clear hra hrb
  have hai : (a : Int) < l.length := by omega
  have hbi : (b : Int) < l.length := by omega
  obtain ⟨g, o, rfl, _, _, hCw, _⟩ := sl_split H.sl (by omega)
  go_enter Try.func44, Try.ntmps44
  go_wp2
  have eX := H.drew
  haveI : Nonempty (SqC.Come fun U => BW U pw pl nv mv l wl (some ⟨g, o, none⟩) wa cap wcap) := ⟨⟨_, eX⟩⟩
  refine SqC.wp_region_sqc 14 [5, 11, 12] (fun U => BW U pw pl nv mv l wl (some ⟨g, o, none⟩) wa cap wcap) (by kernel_rfl) (by kernel_rfl) (by kernel_rfl) eX ?_
  have hcell : ∀ U (i m : Nat) (hi : i < l.length), l[i] = (m : Int) → BW U pw pl nv mv l wl (some ⟨g, o, none⟩) wa cap wcap → U.cell? ⟨g, o + i, none⟩ = some (.int .i64 m) := fun U i m hi hm hU => by
    obtain ⟨g', o', e, _, _, hC, _⟩ := sl_split hU.sl (by omega)
    injection e with e; injection e with e1 e2 e3
    subst e1 e2
    exact hC i _ (by simp [hi, hm])
  refine SqC.value (.agg #[nv, mv, .slice (some ⟨g, o, none⟩) l.length cap, .slice wa wl.length wcap]) rfl rfl (by intro U hU; exact load_agg_exec rfl rfl (run_load_agg (P := Try.prog) (ty := 61) hU.bw.cells0 aggW infoW)) ?_
  simp only [Act.put, List.setIfInBounds_toArray, List.set_cons_zero, List.set_cons_succ]
  refine SqC.value (.slice (some ⟨g, o, none⟩) l.length cap) rfl rfl (by intro U hU; have cx : U.cell? ⟨pl, 0, none⟩ = some (.slice (some ⟨g, o, none⟩) l.length cap) := hU.bl.cell rfl; go_simp) ?_
  simp only [Act.put, List.setIfInBounds_toArray, List.set_cons_zero, List.set_cons_succ]
  iterate 2 (refine SqC.quiet rfl rfl ?_; go_big_quiet_step (fail); refine wpQuiet_nil ?_)
  refine SqC.value (.int .i64 cb) rfl rfl (by intro U hU; have cx := hcell U b cb hb hcb hU; go_simp) ?_
  simp only [Act.put, List.setIfInBounds_toArray, List.set_cons_zero, List.set_cons_succ]
  refine SqC.effect rfl rfl ?_
  refine yields_call rfl (by kernel_rfl) rfl rfl ((lb _ eX).mono ?_)
  rintro e w2 ⟨rfl, b2⟩
  have X2 := eX.below b2
  refine ⟨_, rfl, fun _ => X2, ?_⟩
  simp only [Act.put, List.setIfInBounds_toArray, List.set_cons_zero, List.set_cons_succ]
  refine SqC.value (.agg #[nv, mv, .slice (some ⟨g, o, none⟩) l.length cap, .slice wa wl.length wcap]) rfl rfl (by intro U hU; exact load_agg_exec rfl rfl (run_load_agg (P := Try.prog) (ty := 61) hU.bw.cells0 aggW infoW)) ?_
  simp only [Act.put, List.setIfInBounds_toArray, List.set_cons_zero, List.set_cons_succ]
  refine SqC.value (.slice (some ⟨g, o, none⟩) l.length cap) rfl rfl (by intro U hU; have cx : U.cell? ⟨pl, 0, none⟩ = some (.slice (some ⟨g, o, none⟩) l.length cap) := hU.bl.cell rfl; go_simp) ?_
  simp only [Act.put, List.setIfInBounds_toArray, List.set_cons_zero, List.set_cons_succ]
  iterate 2 (refine SqC.quiet rfl rfl ?_; go_big_quiet_step (fail); refine wpQuiet_nil ?_)
  refine SqC.value (.int .i64 ca) rfl rfl (by intro U hU; have cx := hcell U a ca ha hca hU; go_simp) ?_
  simp only [Act.put, List.setIfInBounds_toArray, List.set_cons_zero, List.set_cons_succ]
  refine SqC.effect rfl rfl ?_
  refine yields_call rfl (by kernel_rfl) rfl rfl ((la _ X2).mono ?_)
  rintro e w3 ⟨rfl, b3⟩
  have X3 := X2.below b3
  refine ⟨_, rfl, fun _ => X3, ?_⟩
  simp only [Act.put, List.setIfInBounds_toArray, List.set_cons_zero, List.set_cons_succ]
  refine SqC.effect rfl rfl ?_
  refine yields_call rfl (by kernel_rfl) rfl rfl ((compare_any rb ra w3).mono ?_)
  rintro e w4 ⟨rfl, rfl⟩
  refine ⟨_, rfl, fun _ => X3, ?_⟩
  simp only [Act.put, List.setIfInBounds_toArray, List.set_cons_zero, List.set_cons_succ]
  refine SqC.quiet rfl rfl ?_; go_big_quiet_step (fail); refine wpQuiet_nil ?_
  refine SqC.nil ?_
  go_wp2
  go_ret
  have b1 : Below w.heap.size w w2 := ((Below.refl w.heap.size w).drew).trans b2
  exact ⟨rfl, b1.trans (b3.mono b1.size)⟩
end Go.Proofs.Ytnkglahiagigoaa
