/- Clone of the program's disk. -/
import Derived.Test.YtkffgmhaiodagaaD13
import Derived.Deep.CutBlock
import Derived.Test.YtkffgmhaiodagaaSqR
namespace Go.Proofs.Ytkffgmhaiodagaa
open Go.RowKit Go.Own Go.Disk Go.BigFrame
attribute [local go_sem] setCell_twice str_size
theorem info_blk : (Try.prog.info? 74).map (fun i => (i.zero, i.size, i.bytes)) = some (some (.agg zero64.toArray), 64, 64) := by kernel_rfl
theorem sl64 {w : World} {g off n cap : Nat} {vs : List Value} (hl : vs.length = n * 64) (h1 : n ≤ cap) (h2 : cap ≤ maxLen) (hC : Cells w g off vs) (hg : g < w.heap.size) : Sl w 64 (.slice (some ⟨g, off, none⟩) n cap) n vs :=
  ⟨hl, .inr ⟨g, off, cap, rfl, h1, h2, hC, hg⟩⟩
set_option maxRecDepth 100000 in
theorem clone_blocks (f : Ft) (d : DS) (w : World) (h : PD w f d) : Calls Try.prog 52 #[.slice (some ⟨f.bb, 0, none⟩) d.s.length f.cap] w fun e w' => ∃ v, e = .returned v ∧ w'.ownsRow w.heap.size 74 64 v d.s.length (flat d.s) ∧ Below w.heap.size w w' := by
  have hq := fun W => eql_slice_nil (P := Try.prog) W 67 74 (some ⟨f.bb, 0, none⟩) d.s.length f.cap hTbs
  have hfl := flat_length h.ok.t
  have hmost := h.ok.most
  go_enter Try.func52, Try.ntmps52
  have hS : Sl (w.alloc (.cells #[] 74)) 64 (.slice (some ⟨f.bb, 0, none⟩) d.s.length f.cap) d.s.length (flat d.s) := by
    have h1 := (h.below (alloc_below w (.cells #[] 74))).blocks
    exact sl64 hfl h.fit.1 h.fit.2 (h1.cells _ _ (by unfold flatS; rw [List.drop_zero, List.take_append_of_le_length (Nat.le_refl _), List.take_length])) h1.lt
  have h1c : ∀ u ∈ flat d.s, u.oneCell' = true := by
    intro u hu
    obtain ⟨x, _, hu⟩ := List.mem_flatMap.1 hu
    exact bytes_oneCell _ u hu
  have hO := World.ownsRow_made (e := 74) (size := 64) w #[] 0 (Nat.le_refl _) (by decide) (by simp)
  go_wp2_with (refine wpList_append_sl rfl _ _ 67 rfl w.heap.size 74 (.agg zero64.toArray) 64 64 hTbs info_blk rfl (by decide) _ 0 [] rfl hO _ d.s.length (flat d.s) rfl hS h1c (by rw [Nat.zero_add]; unfold maxLen; omega) (by omega) (by simp) ?_)
  intro v' w' h1 h2
  have hb : Below w.heap.size w w' := grown_below (alloc_below w (.cells #[] 74)) hO h2 (by simp)
  try rw [Nat.zero_add, List.nil_append] at h1
  go_wp2
  go_ret
  exact ⟨v', rfl, h1, hb⟩
theorem cloneP_any (b : Nat) (m : List (Int × Value)) (w : World) (h : IMap w b m) : Calls Try.prog 53 #[.map (some b)] w fun e w' => e = .returned (.map (some w.heap.size)) ∧ IMap w' w.heap.size m ∧ Below w.heap.size w w' := by
  obtain ⟨es, clock, hb, hs, he⟩ := h
  refine (AnyW.maps_Clone Try.cloneP b es clock w hb).mono ?_
  rintro e w' ⟨he', rfl⟩
  exact ⟨he', ⟨es, clock, (MapKept.heap_alloc w _).1, hs, he⟩, alloc_below _ _⟩
theorem cloneW_any (b : Nat) (m : List (Int × Value)) (w : World) (h : IMap w b m) : Calls Try.prog 54 #[.map (some b)] w fun e w' => e = .returned (.map (some w.heap.size)) ∧ IMap w' w.heap.size m ∧ Below w.heap.size w w' := by
  obtain ⟨es, clock, hb, hs, he⟩ := h
  refine (AnyW.maps_Clone Try.cloneW b es clock w hb).mono ?_
  rintro e w' ⟨he', rfl⟩
  exact ⟨he', ⟨es, clock, (MapKept.heap_alloc w _).1, hs, he⟩, alloc_below _ _⟩
theorem PD.boxed {w W : World} {f : Ft} {d : DS} {l : Int} (h : PD w f d) (hl : max (-1) l = d.left ∧ -9223372036854775808 ≤ l) {g b9 b14 cap : Nat} {sp : List Value} {mp mw : List (Int × Value)} (h42 : d.s.length ≤ cap) (h43 : cap ≤ maxLen)
    (h44 : Blk W g (flat d.s ++ sp) 74) (h92 : IMap W b9 mp) (hmg : ∀ k, mget mp k = if inR d k then (sec d k).p.map bval else none) (h142 : IMap W b14 mw) (hwg : ∀ k, mget mw k = if inR d k && (sec d k).w then some (.bool true) else none) (hne : b9 ≠ b14) :
    PD (W.alloc (.cells #[.slice (some ⟨g, 0, none⟩) d.s.length cap, .map (some b9), .map (some b14), .bool d.off, .int .i64 l] 71)) ⟨W.heap.size, g, b9, b14, cap, sp⟩ d := by
  have hk := fun o => alloc_below W o
  have l1 := h44.lt
  have l2 := h92.lt
  have l3 := h142.lt
  have ne : ∀ b m, IMap W b m → g ≠ b := by
    rintro b m ⟨es, clock, hh, _⟩ rfl
    unfold Blk at h44
    rw [h44] at hh
    cases hh
  refine ⟨⟨h42, h43⟩, ⟨l, Blk.new W _ _, hl⟩, h44.below (hk _) l1, ⟨mp, h92.below (hk _), hmg⟩, ⟨mw, h142.below (hk _), hwg⟩, h.ok, ?_⟩
  exact ⟨by dsimp only; omega, by dsimp only; omega, by dsimp only; omega, ne _ _ h92, ne _ _ h142, hne⟩
attribute [local irreducible] SqR.SqW
set_option maxHeartbeats 1600000 in
set_option maxRecDepth 100000 in
theorem clone_any (f : Ft) (d : DS) (w : World) (h : PD w f d) : Calls Try.prog 28 #[.pointer (some ⟨f.p, 0, none⟩)] w fun e w' => ∃ f' : Ft, e = .returned (.pointer (some ⟨f'.p, 0, none⟩)) ∧ PD w' f' d ∧ (∀ x ∈ f'.all, w.heap.size ≤ x) ∧ Below w.heap.size w w' := by
  obtain ⟨l, hB, hl⟩ := h.head
  obtain ⟨mp, hmp, hmg⟩ := h.pend
  obtain ⟨mw, hmw, hwg⟩ := h.worn
  have hpos := h.ok.pos
  go_enter Try.func28, Try.ntmps28
  go_wp2
  refine SqR.wp_region_sqB 26 [3, 4, 8, 9, 13, 14, 18, 22, 24] (fun i v W => match i with
    | 3 => v = .slice (some ⟨f.bb, 0, none⟩) d.s.length f.cap
    | 4 => ∃ g cap sp, v = .slice (some ⟨g, 0, none⟩) d.s.length cap ∧ w.heap.size ≤ g ∧ d.s.length ≤ cap ∧ cap ≤ maxLen ∧ Blk W g (flat d.s ++ sp) 74
    | 8 => v = .map (some f.pb)
    | 9 => ∃ b, v = .map (some b) ∧ w.heap.size ≤ b ∧ IMap W b mp
    | 13 => v = .map (some f.wb)
    | 14 => ∃ b, v = .map (some b) ∧ w.heap.size ≤ b ∧ IMap W b mw
    | 18 => v = .bool d.off
    | 22 => v = .int .i64 l
    | 24 => ∃ f' : Ft, v = .pointer (some ⟨f'.p, 0, none⟩) ∧ PD W f' d ∧ ∀ x ∈ f'.all, w.heap.size ≤ x
    | _ => True) (fun k ρ v => k = 14 → ρ 9 ≠ v) ?cong (by kernel_rfl) (by kernel_rfl) ?stable ?main
  case cong =>
    intro k ρ ρ' v h1 h2 e
    subst e
    rw [← h1 9 (by kernel_rfl)]
    exact h2 rfl
  case stable =>
    intro i v W W' h hb
    match i, h with
    | 0, h => exact h
    | 1, h => exact h
    | 2, h => exact h
    | 3, h => exact h
    | 4, h => exact (by obtain ⟨g, cap, sp, h1, h2, h3, h4, h5⟩ := h; exact ⟨g, cap, sp, h1, h2, h3, h4, h5.below (ExtB.below hb) h5.lt⟩)
    | 5, h => exact h
    | 6, h => exact h
    | 7, h => exact h
    | 8, h => exact h
    | 9, h => exact (by obtain ⟨b, h1, h2, h3⟩ := h; exact ⟨b, h1, h2, h3.below (ExtB.below hb)⟩)
    | 10, h => exact h
    | 11, h => exact h
    | 12, h => exact h
    | 13, h => exact h
    | 14, h => exact (by obtain ⟨b, h1, h2, h3⟩ := h; exact ⟨b, h1, h2, h3.below (ExtB.below hb)⟩)
    | 15, h => exact h
    | 16, h => exact h
    | 17, h => exact h
    | 18, h => exact h
    | 19, h => exact h
    | 20, h => exact h
    | 21, h => exact h
    | 22, h => exact h
    | 23, h => exact h
    | 24, h => exact (by obtain ⟨f', h1, h2, h3⟩ := h; exact ⟨f', h1, h2.below (ExtB.below hb), h3⟩)
    | _ + 25, _ => exact trivial
  case main =>
    simp only [List.take_succ_cons, List.take_zero, List.drop_succ_cons, List.drop_zero]
    repeat (refine SqR.sqw_quiet rfl rfl (ExtB.refl _) ?_; go_big_quiet_step (fail); refine wpQuiet_nil ?_)
    refine SqR.sqw_postY rfl rfl rfl ?_ ?_
    · intro W1 hb hf
      have cx : W1.cell? ⟨f.p, 0, none⟩ = some (.slice (some ⟨f.bb, 0, none⟩) d.s.length f.cap) := (hB.below (ExtB.undrew hb) hB.lt).cell rfl
      refine yields_value (v := .slice (some ⟨f.bb, 0, none⟩) d.s.length f.cap) (w' := W1) ?_ ⟨⟨rfl, ExtB.refl _⟩, fun e => absurd e (by decide)⟩
      go_simp
    intro v Wj hv hr
    obtain rfl : v = .slice (some ⟨f.bb, 0, none⟩) d.s.length f.cap := hv
    clear hr
    simp only [Act.put, List.setIfInBounds_toArray, List.set_cons_zero, List.set_cons_succ]
    repeat (refine SqR.sqw_quiet rfl rfl (ExtB.refl _) ?_; go_big_quiet_step (fail); refine wpQuiet_nil ?_)
    refine SqR.sqw_postY rfl rfl rfl ?_ ?_
    · intro W1 hb hf
      have hW := h.below (ExtB.undrew hb)
      refine yields_call rfl (by kernel_rfl) rfl rfl ((clone_blocks f d W1 hW).mono ?_)
      rintro e w' ⟨v, rfl, h1, h2⟩
      obtain ⟨g, cap, sp, rfl, h3, h4, h5, h6⟩ := own_blk h1 (by omega)
      exact ⟨_, rfl, ⟨⟨g, cap, sp, rfl, Nat.le_trans (ExtB.undrew hb).size h3, h4, h5, h6⟩, h2⟩, fun e => absurd e (by decide)⟩
    intro v Wj hv hr
    obtain ⟨g, cap, sp, rfl, hg⟩ := hv
    clear hr
    simp only [Act.put, List.setIfInBounds_toArray, List.set_cons_zero, List.set_cons_succ]
    repeat (refine SqR.sqw_quiet rfl rfl (ExtB.refl _) ?_; go_big_quiet_step (fail); refine wpQuiet_nil ?_)
    refine SqR.sqw_postY rfl rfl rfl ?_ ?_
    · intro W1 hb hf
      have cx : W1.cell? ⟨f.p, 1, none⟩ = some (.map (some f.pb)) := (hB.below (ExtB.undrew hb) hB.lt).cell rfl
      refine yields_value (v := .map (some f.pb)) (w' := W1) ?_ ⟨⟨rfl, ExtB.refl _⟩, fun e => absurd e (by decide)⟩
      go_simp
    intro v Wj hv hr
    obtain rfl : v = .map (some f.pb) := hv
    clear hr
    simp only [Act.put, List.setIfInBounds_toArray, List.set_cons_zero, List.set_cons_succ]
    repeat (refine SqR.sqw_quiet rfl rfl (ExtB.refl _) ?_; go_big_quiet_step (fail); refine wpQuiet_nil ?_)
    refine SqR.sqw_postY rfl rfl rfl ?_ ?_
    · intro W1 hb hf
      refine yields_call rfl (by kernel_rfl) rfl rfl ((cloneP_any f.pb mp W1 (hmp.below (ExtB.undrew hb))).mono ?_)
      rintro e w' ⟨rfl, h1, h2⟩
      exact ⟨_, rfl, ⟨⟨_, rfl, (ExtB.undrew hb).size, h1⟩, h2⟩, fun e => absurd e (by decide)⟩
    intro v Wj hv hr
    obtain ⟨b9, rfl, hb9, _⟩ := hv
    clear hr
    simp only [Act.put, List.setIfInBounds_toArray, List.set_cons_zero, List.set_cons_succ]
    repeat (refine SqR.sqw_quiet rfl rfl (ExtB.refl _) ?_; go_big_quiet_step (fail); refine wpQuiet_nil ?_)
    refine SqR.sqw_postY rfl rfl rfl ?_ ?_
    · intro W1 hb hf
      have cx : W1.cell? ⟨f.p, 2, none⟩ = some (.map (some f.wb)) := (hB.below (ExtB.undrew hb) hB.lt).cell rfl
      refine yields_value (v := .map (some f.wb)) (w' := W1) ?_ ⟨⟨rfl, ExtB.refl _⟩, fun e => absurd e (by decide)⟩
      go_simp
    intro v Wj hv hr
    obtain rfl : v = .map (some f.wb) := hv
    clear hr
    simp only [Act.put, List.setIfInBounds_toArray, List.set_cons_zero, List.set_cons_succ]
    repeat (refine SqR.sqw_quiet rfl rfl (ExtB.refl _) ?_; go_big_quiet_step (fail); refine wpQuiet_nil ?_)
    refine SqR.sqw_postY rfl rfl rfl ?_ ?_
    · intro W1 hb hf
      have p9 : ∃ b, Value.map (some b9) = .map (some b) ∧ w.heap.size ≤ b ∧ IMap W1 b mp := hf 9 12 (by kernel_rfl) rfl rfl (fun o h => by obtain rfl := Option.some.inj h; rfl)
      obtain ⟨b9', e9, _, h9⟩ := p9
      injection e9 with e9
      injection e9 with e9
      subst e9
      have hlt := h9.lt
      refine yields_call rfl (by kernel_rfl) rfl rfl ((cloneW_any f.wb mw W1 (hmw.below (ExtB.undrew hb))).mono ?_)
      rintro e w' ⟨rfl, h1, h2⟩
      refine ⟨_, rfl, ⟨⟨_, rfl, (ExtB.undrew hb).size, h1⟩, h2⟩, fun _ e => ?_⟩
      have e : Value.map (some b9) = .map (some W1.heap.size) := e
      injection e with e
      injection e with e
      omega
    intro v Wj hv hr
    obtain ⟨b14, rfl, hb14, _⟩ := hv
    have hne : b9 ≠ b14 := fun e => hr rfl (by rw [e]; rfl)
    clear hr
    simp only [Act.put, List.setIfInBounds_toArray, List.set_cons_zero, List.set_cons_succ]
    repeat (refine SqR.sqw_quiet rfl rfl (ExtB.refl _) ?_; go_big_quiet_step (fail); refine wpQuiet_nil ?_)
    refine SqR.sqw_postY rfl rfl rfl ?_ ?_
    · intro W1 hb hf
      have cx : W1.cell? ⟨f.p, 3, none⟩ = some (.bool d.off) := (hB.below (ExtB.undrew hb) hB.lt).cell rfl
      refine yields_value (v := .bool d.off) (w' := W1) ?_ ⟨⟨rfl, ExtB.refl _⟩, fun e => absurd e (by decide)⟩
      go_simp
    intro v Wj hv hr
    obtain rfl : v = .bool d.off := hv
    clear hr
    simp only [Act.put, List.setIfInBounds_toArray, List.set_cons_zero, List.set_cons_succ]
    repeat (refine SqR.sqw_quiet rfl rfl (ExtB.refl _) ?_; go_big_quiet_step (fail); refine wpQuiet_nil ?_)
    refine SqR.sqw_postY rfl rfl rfl ?_ ?_
    · intro W1 hb hf
      have cx : W1.cell? ⟨f.p, 4, none⟩ = some (.int .i64 l) := (hB.below (ExtB.undrew hb) hB.lt).cell rfl
      refine yields_value (v := .int .i64 l) (w' := W1) ?_ ⟨⟨rfl, ExtB.refl _⟩, fun e => absurd e (by decide)⟩
      go_simp
    intro v Wj hv hr
    obtain rfl : v = .int .i64 l := hv
    clear hr
    simp only [Act.put, List.setIfInBounds_toArray, List.set_cons_zero, List.set_cons_succ]
    repeat (refine SqR.sqw_quiet rfl rfl (ExtB.refl _) ?_; go_big_quiet_step (fail); refine wpQuiet_nil ?_)
    refine SqR.sqw_postY rfl rfl rfl ?_ ?_
    · intro W1 hb hf
      have p4 : ∃ g0 cap0 sp, Value.slice (some ⟨g, 0, none⟩) d.s.length cap = .slice (some ⟨g0, 0, none⟩) d.s.length cap0 ∧ w.heap.size ≤ g0 ∧ d.s.length ≤ cap0 ∧ cap0 ≤ maxLen ∧ Blk W1 g0 (flat d.s ++ sp) 74 := hf 4 7 (by kernel_rfl) rfl rfl (fun o h => by obtain rfl := Option.some.inj h; rfl)
      have p9 : ∃ b, Value.map (some b9) = .map (some b) ∧ w.heap.size ≤ b ∧ IMap W1 b mp := hf 9 12 (by kernel_rfl) rfl rfl (fun o h => by obtain rfl := Option.some.inj h; rfl)
      have p14 : ∃ b, Value.map (some b14) = .map (some b) ∧ w.heap.size ≤ b ∧ IMap W1 b mw := hf 14 17 (by kernel_rfl) rfl rfl (fun o h => by obtain rfl := Option.some.inj h; rfl)
      obtain ⟨g', cap', sp', e4, h41, h42, h43, h44⟩ := p4
      injection e4 with e4 _ e4'
      injection e4 with e4
      injection e4 with e4
      subst e4 e4'
      obtain ⟨b9', e9, h91, h92⟩ := p9
      injection e9 with e9
      injection e9 with e9
      subst e9
      obtain ⟨b14', e14, h141, h142⟩ := p14
      injection e14 with e14
      injection e14 with e14
      subst e14
      refine yields_value (v := .pointer (some ⟨W1.heap.size, 0, none⟩)) (w' := W1.alloc (.cells #[.slice (some ⟨g, 0, none⟩) d.s.length cap, .map (some b9), .map (some b14), .bool d.off, .int .i64 l] 71)) ?_ ⟨⟨⟨⟨W1.heap.size, g, b9, b14, cap, sp'⟩, rfl, ?_, ?_⟩, alloc_below _ _⟩, fun e => absurd e (by decide)⟩
      · go_simp
      · exact PD.boxed h hl h42 h43 h44 h92 hmg h142 hwg hne
      · simp only [Ft.all, List.mem_cons, List.not_mem_nil, or_false]
        rintro x (rfl | rfl | rfl | rfl)
        · exact (ExtB.undrew hb).size
        · exact h41
        · exact h91
        · exact h141
    intro v Wj hv hr
    obtain ⟨f', rfl, hf'⟩ := hv
    clear hr hf'
    simp only [Act.put, List.setIfInBounds_toArray, List.set_cons_zero, List.set_cons_succ]
    repeat (refine SqR.sqw_quiet rfl rfl (ExtB.refl _) ?_; go_big_quiet_step (fail); refine wpQuiet_nil ?_)
    refine SqR.sqw_nil ?_
    intro w7 hb hF
    have hb7 := ExtB.undrew hb
    have p24 : ∃ f0 : Ft, Value.pointer (some ⟨f'.p, 0, none⟩) = .pointer (some ⟨f0.p, 0, none⟩) ∧ PD w7 f0 d ∧ ∀ x ∈ f0.all, w.heap.size ≤ x := hF 24 27 (by decide) rfl rfl (fun o h => by obtain rfl := Option.some.inj h; rfl)
    obtain ⟨f0, e, h1, h2⟩ := p24
    refine wpList_nil ?_
    go_wp2
    go_ret
    exact ⟨f0, ret_of e, h1, h2, hb7⟩
end Go.Proofs.Ytkffgmhaiodagaa
