/- label: insertionSort at a stretch, SortStableFunc at fewer than 80 words in ascending order. -/
import Derived.Test.YtcbmifaobdamhaaS2
namespace Go.Own
def Asc (F : Nat → Int) (a b : Nat) : Prop := ∀ i j, a ≤ i → i < j → j < b → F i < F j
/-- the first stretches are sorted -/
structure II (key : Int → Int) (F G : Nat → Int) (n a : Nat) : Prop where
  lo : ∀ i j, i < j → j < a → i / 20 = j / 20 → lexR key (G i) (G j)
  out : ∀ i, a ≤ i → G i = F i
  mem : ∀ i, i < a → ∃ j, j < n ∧ j / 20 = i / 20 ∧ G i = F j
  sh : Sh 0 n F G
theorem II.zero (key : Int → Int) (F : Nat → Int) (n : Nat) : II key F F n 0 := ⟨fun i j _ h => by omega, fun _ _ => rfl, fun i h => by omega, Sh.refl _ _ _⟩
theorem II.step {key : Int → Int} {F G G' : Nat → Int} {n a b : Nat} (h : II key F G n a) (ha : a % 20 = 0) (hab : a ≤ b) (hb : b ≤ a + 20) (hbn : b ≤ n) (sh : Sh a b G G') (st : SrtF key G' a b) : II key F G' n b := by
  refine ⟨fun i j hij hj he => ?_, fun i hi => ?_, fun i hi => ?_, h.sh.trans (sh.mono (Nat.zero_le _) hbn)⟩
  · by_cases hja : j < a
    · rw [sh.out (.inl (by omega)), sh.out (.inl hja)]; exact h.lo i j hij hja he
    · exact st i j (by omega) hij hj
  · rw [sh.out (.inr hi)]; exact h.out i (by omega)
  · by_cases hia : i < a
    · rw [sh.out (.inl hia)]; exact h.mem i hia
    · obtain ⟨j, j1, j2, j3⟩ := sh.mem (show a ≤ i by omega) hi
      exact ⟨j, by omega, by omega, by rw [j3, h.out j j1]⟩
/-- all stretches of a length are sorted -/
structure BI (key : Int → Int) (F G : Nat → Int) (n c : Nat) : Prop where
  lo : ∀ i j, i < j → j < n → i / c = j / c → lexR key (G i) (G j)
  mem : ∀ i, i < n → ∃ j, j < n ∧ j / c = i / c ∧ G i = F j
  sh : Sh 0 n F G
structure MI (key : Int → Int) (F G : Nat → Int) (n c a : Nat) : Prop where
  lo : ∀ i j, i < j → j < a → i / (2 * c) = j / (2 * c) → lexR key (G i) (G j)
  hi : ∀ i j, a ≤ i → i < j → j < n → i / c = j / c → lexR key (G i) (G j)
  meml : ∀ i, i < a → ∃ j, j < n ∧ j / (2 * c) = i / (2 * c) ∧ G i = F j
  memh : ∀ i, a ≤ i → i < n → ∃ j, j < n ∧ j / c = i / c ∧ G i = F j
  sh : Sh 0 n F G
theorem BI.mi {key : Int → Int} {F G : Nat → Int} {n c : Nat} (h : BI key F G n c) : MI key F G n c 0 :=
  ⟨fun i j _ hj => by omega, fun i j _ => h.lo i j, fun i hi => by omega, fun i _ => h.mem i, h.sh⟩
theorem MI.bi {key : Int → Int} {F G : Nat → Int} {n c a : Nat} (h : MI key F G n c a) (ha : a = n) : BI key F G n (2 * c) := by
  subst ha
  exact ⟨h.lo, h.meml, h.sh⟩
theorem MI.pre {key : Int → Int} {F G : Nat → Int} {n c a b : Nat} (h : MI key F G n c a) (hc : c = 20 ∨ c = 40) (ha : a % (2 * c) = 0) (hab : a + c < b) (hb : b ≤ a + 2 * c) (hbn : b ≤ n) (asc : Asc F 0 n) :
    SrtF key G a (a + c) ∧ SrtF key G (a + c) b ∧ Crs key G a (a + c) b := by
  refine ⟨fun i j hi hij hj => h.hi i j hi hij (by omega) ?_, fun i j hi hij hj => h.hi i j (by omega) hij (by omega) ?_, fun i j hi him hm hj he => ?_⟩
  · rcases hc with rfl | rfl <;> omega
  · rcases hc with rfl | rfl <;> omega
  · obtain ⟨i', a1, a2, a3⟩ := h.memh i hi (by omega)
    obtain ⟨j', b1, b2, b3⟩ := h.memh j (by omega) (by omega)
    rw [a3, b3]
    refine asc i' j' (Nat.zero_le _) ?_ b1
    rcases hc with rfl | rfl <;> omega
theorem MI.step {key : Int → Int} {F G G' : Nat → Int} {n c a b : Nat} (h : MI key F G n c a) (hc : c = 20 ∨ c = 40) (ha : a % (2 * c) = 0) (hab : a ≤ b) (hb : b ≤ a + 2 * c) (hbn : b ≤ n) (hlast : b = a + 2 * c ∨ b = n) (sh : Sh a b G G') (st : SrtF key G' a b) : MI key F G' n c b := by
  refine ⟨fun i j hij hj he => ?_, fun i j hi hij hj he => ?_, fun i hi => ?_, fun i hi hin => ?_, h.sh.trans (sh.mono (Nat.zero_le _) hbn)⟩
  · by_cases hja : j < a
    · rw [sh.out (.inl (by omega)), sh.out (.inl hja)]; exact h.lo i j hij hja he
    · exact st i j (by rcases hc with rfl | rfl <;> omega) hij hj
  · rw [sh.out (.inr hi), sh.out (.inr (by omega))]; exact h.hi i j (by omega) hij hj he
  · by_cases hia : i < a
    · rw [sh.out (.inl hia)]; exact h.meml i hia
    · obtain ⟨j, j1, j2, j3⟩ := sh.mem (show a ≤ i by omega) hi
      obtain ⟨j', b1, b2, b3⟩ := h.memh j j1 (by omega)
      refine ⟨j', b1, ?_, by rw [j3, b3]⟩
      rcases hc with rfl | rfl <;> omega
  · rw [sh.out (.inr hi)]; exact h.memh i (by omega) hin
theorem MI.last {key : Int → Int} {F G : Nat → Int} {n c a : Nat} (h : MI key F G n c a) (hc : c = 20 ∨ c = 40) (ha : a % (2 * c) = 0) (han : a ≤ n) (hb : n ≤ a + c) : MI key F G n c n :=
  h.step hc ha han (by omega) (Nat.le_refl _) (.inr rfl) (Sh.refl _ _ _) fun i j hi hij hj => h.hi i j hi hij hj (by rcases hc with rfl | rfl <;> omega)
theorem BI.done {key : Int → Int} {F G : Nat → Int} {n c : Nat} (h : BI key F G n c) (hn : n ≤ c) : SrtF key G 0 n := fun i j _ hij hj => h.lo i j hij hj (by rw [Nat.div_eq_of_lt (by omega), Nat.div_eq_of_lt (by omega)])
theorem II.bi {key : Int → Int} {F G : Nat → Int} {n : Nat} (h : II key F G n n) : BI key F G n 20 := ⟨h.lo, h.mem, h.sh⟩
theorem asc_of {xs : List Int} (h : xs.Pairwise (· < ·)) : Asc (fun k => xs.getD k 0) 0 xs.length := by
  intro i j _ hij hj
  have h1 : xs.getD i 0 = xs[i] := by simp [show i < xs.length by omega]
  have h2 : xs.getD j 0 = xs[j] := by simp [hj]
  show xs.getD i 0 < xs.getD j 0
  rw [h1, h2]
  exact List.pairwise_iff_getElem.1 h i j (by omega) hj hij
theorem map_getD (xs : List Int) : (List.range xs.length).map (fun k => xs.getD k 0) = xs := by
  apply List.ext_getElem?
  intro i
  by_cases hi : i < xs.length
  · simp [hi]
  · simp [hi]
theorem rowF_map (n : Nat) (F : Nat → Int) : rowF n F = ((List.range n).map F).map (.int .i64) := by
  unfold rowF; rw [List.map_map]; rfl
end Go.Own
namespace Go.Proofs.Ytcbmifaobdamhaa
open Go.RowKit Go.Own Go.Theory Go.BigFrame Go.Shelf
attribute [local irreducible] SqC.SqW
set_option maxRecDepth 100000 in
set_option maxHeartbeats 4000000 in
theorem insF_any (key : Int → Int) (f : Nat) (lb : Array Value) (sp : List Value) (g cap n : Nat) (E : World → Prop) (hE : ∀ W W', E W → Chg [g] W W' → E W') (hn : n ≤ 1000000)
    (hf : (Try.prog.funcs[f]?).map (fun fn => (fn.name == "runtime.NumGoroutine", fn.body.isNone)) = some (false, false))
    (hcmp : ∀ W x y, E W → Calls Try.prog f (#[.int .i64 x, .int .i64 y] ++ lb) W fun e w' => ∃ c, e = .returned (.int .i64 c) ∧ (c < 0 ↔ key x < key y) ∧ Below W.heap.size W w')
    (a b : Nat) (F : Nat → Int) (w : World) (hab : a ≤ b) (hbn : b ≤ n) (asc : Asc F a b) (hw : E w) (hB : Blk w g (rowF n F ++ sp) 3) :
    Calls Try.prog 86 #[.slice (some ⟨g, 0, none⟩) n cap, .int .i64 a, .int .i64 b, .func (.func f) #[] lb] w fun e w' => e = .returned (.tuple #[]) ∧ ∃ F' : Nat → Int, Sh a b F F' ∧ SrtF key F' a b ∧ Blk w' g (rowF n F' ++ sp) 3 ∧ Chg [g] w w' := by
  have HCMP := Lib.hid hcmp; clear hcmp
  go_enter Try.func86, Try.ntmps86
  go_wp2
  go_loopw [8] (fun c wr => ∃ (k : Nat) (G : Nat → Int), a + 1 ≤ k ∧ (k ≤ b ∨ (k = a + 1 ∧ a = b)) ∧ c = .int .i64 k ∧ (a < b → Sh a k F G) ∧ (a = b → G = F) ∧ (a < b → SrtF key G a k) ∧ Blk wr g (rowF n G ++ sp) 3 ∧ Chg [g] w wr) (fun c _ => b + 1 - (vInt c).toNat)
  case atStart => exact ⟨a + 1, F, by omega, by omega, by go_num, fun _ => Sh.refl _ _ _, fun _ => rfl, fun _ i j h1 h2 h3 => by omega, hB, Chg.refl _ _⟩
  case round =>
    obtain ⟨k, G, h1, h2, rfl, h3, h4, h5, hBr, hch⟩ := hrel
    by_cases hkn : k < b
    · have h3 := h3 (by omega)
      have h5 := h5 (by omega)
      clear h4
      have hki : (k : Int) < b := by omega
      have hxk : ∀ i, a ≤ i → i < k → G i < G k := fun i hi hik => by
        obtain ⟨j, j1, j2, j3⟩ := h3.mem hi hik
        rw [j3, h3.out (.inr (Nat.le_refl k))]
        exact asc j k j1 j2 hkn
      obtain ⟨wo, hwo⟩ : ∃ wo : World, wo = wr := ⟨_, rfl⟩
      subst hwo
      have H3 := Lib.hid h3; clear h3
      have H5 := Lib.hid h5; clear h5
      have HXK := Lib.hid hxk; clear hxk
      go_wp2
      go_loopw [9] (fun c wr => ∃ j : Nat, a ≤ j ∧ j ≤ k ∧ c = .int .i64 j ∧ (j = k ∨ key (G k) < key (G j)) ∧ Sh a (k + 1) G (insDn G k j) ∧ Blk wr g (rowF n (insDn G k j) ++ sp) 3 ∧ Chg [g] w wr) (fun c _ => (vInt c).toNat)
      case atStart => exact ⟨k, by omega, Nat.le_refl _, rfl, .inl rfl, by rw [insDn_zero]; exact Sh.refl _ _ _, by rw [insDn_zero]; exact hBr, hch⟩
      case round =>
        clear hBr hch
        obtain ⟨j, g1, g2, rfl, g3, g4, hBr, hch⟩ := hrel
        have hfin : (j = a ∨ key (G (j - 1)) ≤ key (G k)) → Sh a (k + 1) F (insDn G k j) ∧ SrtF key (insDn G k j) a (k + 1) := fun hlo =>
          ⟨(H3.out.mono (Nat.le_refl _) (by omega)).trans g4, srt_dn rfl H5.out (fun i j hi him hm hj _ => by rw [show j = k by omega]; exact HXK.out i hi him) g1 g2 hlo g3⟩
        have HFIN := Lib.hid hfin; clear hfin
        by_cases hja : a < j
        · have hja' : (a : Int) < j := by omega
          obtain ⟨p, hp⟩ : ∃ p, p = j - 1 := ⟨_, rfl⟩
          have e8 : (j : Int) - 1 = p := by omega
          have hs := insDn_succ (F := G) (m := k) (k := p) (by omega)
          rw [show p + 1 = j by omega] at hs
          have hsw := g4.trans (sh_swp (insDn G k j) (i := j) (j := p) (by omega) (by omega) (by omega) (by omega))
          rw [← hs] at hsw
          have HSW := Lib.hid hsw; clear hsw
          have hp1 : a ≤ p := by omega
          have hp2 : p < k := by omega
          have gp : (rowF n (insDn G k j) ++ sp)[j]? = some (.int .i64 (G k)) := by rw [rowF_get _ sp (by omega), dn_at2]
          have gq : (rowF n (insDn G k j) ++ sp)[p]? = some (.int .i64 (G p)) := by rw [rowF_get _ sp (by omega), dn_at3 (by omega)]
          have l1 : (j : Int) < n := by omega
          have l2 : (p : Int) < n := by omega
          have m1 : j < n := by omega
          have m2 : p < n := by omega
          have hgx : insDn G k j j = G k := dn_at2
          have hgy : insDn G k j p = G p := dn_at3 (by omega)
          have hpj : j - 1 = p := by omega
          obtain ⟨D, hD⟩ : ∃ D, D = insDn G k j := ⟨_, rfl⟩
          rw [← hD] at hBr hs gp gq hgx hgy HFIN g4
          obtain ⟨x, hx⟩ : ∃ x, x = G k := ⟨_, rfl⟩
          obtain ⟨y, hy⟩ : ∃ y, y = G p := ⟨_, rfl⟩
          rw [← hx] at gp hgx
          rw [← hy] at gq hgy
          rw [hpj] at HFIN
          have HGX := Lib.hid hgx; clear hgx
          have HGY := Lib.hid hgy; clear hgy
          have HX := Lib.hid hx; clear hx
          have HY := Lib.hid hy; clear hy
          have HS := Lib.hid hs; clear hs
          have HD := Lib.hid hD; clear hD
          have HG3 := Lib.hid g3; clear g3
          clear hp hpj g4
          have hEr := hE w wr hw hch
          have eX : E wr.drew ∧ Blk wr.drew g (rowF n D ++ sp) 3 := ⟨hE w wr.drew hw hch.drew, hBr.drew⟩
          go_wp2
          obtain ⟨Ext, hExt⟩ : ∃ Ext : World → Prop, Ext = fun U => E U ∧ Blk U g (rowF n D ++ sp) 3 := ⟨_, rfl⟩
          have eX2 : Ext wr.drew := by rw [hExt]; exact eX
          have hU1 : ∀ U, Ext U → Blk U g (rowF n D ++ sp) 3 := fun U h => by rw [hExt] at h; exact h.2
          have hU2 : ∀ U, E U ∧ Blk U g (rowF n D ++ sp) 3 → Ext U := fun U h => by rw [hExt]; exact h
          clear hExt
          haveI : Nonempty (SqC.Come Ext) := ⟨⟨_, eX2⟩⟩
          refine SqC.wp_region_sqc 17 [14] Ext (by kernel_rfl) (by kernel_rfl) (by kernel_rfl) eX2 ?_
          iterate 2 (refine SqC.quiet rfl rfl ?_; go_big_quiet_step (fail); refine wpQuiet_nil ?_)
          refine SqC.value (.bool true) rfl rfl (by intro U hU; go_simp) ?_
          simp only [Act.put, List.setIfInBounds_toArray, List.set_cons_zero, List.set_cons_succ]
          iterate 5 (refine SqC.quiet rfl rfl ?_; go_big_quiet_step (fail); refine wpQuiet_nil ?_)
          refine SqC.value (.int .i64 x) rfl rfl (by intro U hU; have cx : U.cell? ⟨g, j, none⟩ = some (.int .i64 x) := (hU1 U hU).cell gp; go_simp) ?_
          simp only [Act.put, List.setIfInBounds_toArray, List.set_cons_zero, List.set_cons_succ]
          iterate 4 (refine SqC.quiet rfl rfl ?_; go_big_quiet_step (fail); refine wpQuiet_nil ?_)
          refine SqC.value (.int .i64 y) rfl rfl (by intro U hU; have cx : U.cell? ⟨g, p, none⟩ = some (.int .i64 y) := (hU1 U hU).cell gq; go_simp) ?_
          simp only [Act.put, List.setIfInBounds_toArray, List.set_cons_zero, List.set_cons_succ]
          refine SqC.effect rfl rfl ?_
          refine yields_closure rfl hf rfl (args := #[.int .i64 x, .int .i64 y]) rfl ((HCMP.out wr.drew x y eX.1).mono ?_)
          rintro e w2 ⟨c, rfl, hc0, b2⟩
          have HC0 := Lib.hid hc0; clear hc0
          have hch2 : Chg [g] w w2 := hch.trans ((Chg.refl [g] wr).drew.trans (Chg.of_below b2))
          have X2 : Blk w2 g (rowF n D ++ sp) 3 := hBr.drew.below b2 hBr.drew.lt
          refine ⟨_, rfl, fun _ => hU2 _ ⟨hE w w2 hw hch2, X2⟩, ?_⟩
          simp only [Act.put, List.setIfInBounds_toArray, List.set_cons_zero, List.set_cons_succ]
          iterate 2 (refine SqC.quiet rfl rfl ?_; go_big_quiet_step (fail); refine wpQuiet_nil ?_)
          refine SqC.nil ?_
          clear eX eX2 hU1 hU2 hBr hch b2 hEr
          have hc := HC0.out
          rw [HX.out, HY.out] at hc
          have HC := Lib.hid hc; clear hc HC0
          by_cases hc0 : c < 0
          · have hk := HC.out.1 hc0
            have HK := Lib.hid hk; clear hk HC
            have cx : w2.cell? ⟨g, j, none⟩ = some (.int .i64 x) := X2.cell gp
            have cy : w2.cell? ⟨g, p, none⟩ = some (.int .i64 y) := X2.cell gq
            have fx : w2.frozen? ⟨g, j, none⟩ = false := X2.frozen j
            have fy : w2.frozen? ⟨g, p, none⟩ = false := X2.frozen p
            go_wp2
            go_region
            have hB3 : Blk (((w2.setCell ⟨g, j, none⟩ (.int .i64 y)).setCell ⟨g, p, none⟩ (.int .i64 x)).drew) g (rowF n (insDn G k p) ++ sp) 3 := by
              have := (X2.set j (.int .i64 y)).set p (.int .i64 x)
              rw [rowF_set _ _ _ m1, rowF_set _ _ _ m2, ← HGX.out, ← HGY.out, updF_swp, ← HS.out] at this
              rw [← HGX.out, ← HGY.out]
              exact this.drew
            have hch3 : Chg [g] w (((w2.setCell ⟨g, j, none⟩ (.int .i64 y)).setCell ⟨g, p, none⟩ (.int .i64 x)).drew) := ((hch2.set _ (by simp)).set _ (by simp)).drew
            go_wp2
            go_roundw
            case rel => exact ⟨p, hp1, by omega, rfl, .inr HK.out, HSW.out, hB3, hch3⟩
            case measure => simp [vInt]; omega
          · have hk := Int.not_lt.1 fun h => hc0 (HC.out.2 h)
            have HK := Lib.hid hk; clear hk HC
            have hc1 : 0 ≤ c := by omega
            clear hc0
            go_wp2
            go_roundw
            case rel => exact ⟨k + 1, D, by omega, .inl (by omega), by go_num, fun _ => (HFIN.out (.inr HK.out)).1, fun h => by omega, fun _ => (HFIN.out (.inr HK.out)).2, X2, hch2⟩
            case measure => simp [vInt]; omega
        · obtain rfl : j = a := by omega
          have hjj : ((j : Int) < j) = False := eq_false (by omega)
          have h9 := HFIN.out (.inl rfl)
          have H9 := Lib.hid h9; clear h9 HFIN g3 g4
          obtain ⟨D, hD⟩ : ∃ D, D = insDn G k j := ⟨_, rfl⟩
          rw [← hD] at H9 hBr
          clear hD
          go_wp2
          go_quiet (fail)
          go_wp2
          go_roundw
          case rel => exact ⟨k + 1, D, by omega, .inl (by omega), by go_num, fun _ => H9.out.1, fun h => by omega, fun _ => H9.out.2, hBr.drewN _, hch.drewN _⟩
          case measure => simp [vInt]; omega
    · have hki : ((k : Int) < b) = False := eq_false (by omega)
      have hfin : Sh a b F G ∧ SrtF key G a b := by
        rcases h2 with h2 | ⟨h2, h6⟩
        · obtain rfl : k = b := by omega
          exact ⟨h3 (by omega), h5 (by omega)⟩
        · subst h6
          rw [h4 rfl]
          exact ⟨Sh.refl _ _ _, fun i j _ _ _ => by omega⟩
      have HF := Lib.hid hfin; clear hfin h2 h3 h4 h5
      go_wp2
      go_end0
      exact ⟨rfl, G, HF.out.1, HF.out.2, hBr, hch⟩
set_option maxRecDepth 100000 in
set_option maxHeartbeats 4000000 in
theorem stableF_any (key : Int → Int) (f : Nat) (lb : Array Value) (sp : List Value) (g cap n : Nat) (E : World → Prop) (hE : ∀ W W', E W → Chg [g] W W' → E W') (hn : n < 80)
    (hf : (Try.prog.funcs[f]?).map (fun fn => (fn.name == "runtime.NumGoroutine", fn.body.isNone)) = some (false, false))
    (hcmp : ∀ W x y, E W → Calls Try.prog f (#[.int .i64 x, .int .i64 y] ++ lb) W fun e w' => ∃ c, e = .returned (.int .i64 c) ∧ (c < 0 ↔ key x < key y) ∧ Below W.heap.size W w')
    (F : Nat → Int) (w : World) (asc : Asc F 0 n) (hw : E w) (hB : Blk w g (rowF n F ++ sp) 3) :
    Calls Try.prog 72 #[.slice (some ⟨g, 0, none⟩) n cap, .int .i64 n, .func (.func f) #[] lb] w fun e w' => e = .returned (.tuple #[]) ∧ ∃ F' : Nat → Int, Sh 0 n F F' ∧ SrtF key F' 0 n ∧ Blk w' g (rowF n F' ++ sp) 3 ∧ Chg [g] w w' := by
  have hins := fun a b G W => insF_any key f lb sp g cap n E hE (by omega) hf hcmp a b G W
  have hsym := fun a m b G W => sym_any key f lb sp g cap n E hE (by omega) hf hcmp (b - a) a m b G W (Nat.le_refl _)
  have HINS := Lib.hid hins; clear hins
  have HSYM := Lib.hid hsym; clear hsym hcmp
  have ASC := Lib.hid asc; clear asc
  go_enter Try.func72, Try.ntmps72
  go_wp2
  go_loopw [7, 8] (fun u v wr => ∃ (a b : Nat) (G : Nat → Int), a % 20 = 0 ∧ b = a + 20 ∧ a ≤ n ∧ u = .int .i64 a ∧ v = .int .i64 b ∧ II key F G n a ∧ Blk wr g (rowF n G ++ sp) 3 ∧ Chg [g] w wr) (fun _ v _ => n + 21 - (vInt v).toNat)
  case atStart => exact ⟨0, 20, F, by omega, by omega, by omega, rfl, rfl, II.zero _ _ _, hB, Chg.refl _ _⟩
  case round =>
    clear hB
    obtain ⟨a, b, G, h1, h2, h3, rfl, rfl, hI, hBr, hch⟩ := hrel
    have hA : ∀ b', b' ≤ n → b' ≤ a + 20 → Asc G a b' := fun b' hb1 hb2 i j hi hij hj => by
      rw [hI.out i hi, hI.out j (by omega)]
      exact ASC.out i j (by omega) hij (by omega)
    have HI := Lib.hid hI; clear hI
    have HB := Lib.hid h2; clear h2
    by_cases hbn : b ≤ n
    · have hbn' : (b : Int) ≤ n := by omega
      have hi := HINS.out a b G wr (by have := HB.out; omega) hbn (hA b hbn (by have := HB.out; omega)) (hE w wr hw hch) hBr
      have HH := Lib.hid hi; clear hi hA
      obtain ⟨b2, hb2⟩ : ∃ b2, b2 = b + 20 := ⟨_, rfl⟩
      have e20 : (b : Int) + 20 = (b2 : Int) := by omega
      have hb2' : b2 < 100 := by omega
      have HB2 := Lib.hid hb2; clear hb2
      go_wp2_with (fail)
      refine HH.out.mono ?_
      rintro e w2 ⟨rfl, G2, t1, t2, hB2, hc2⟩
      go_wp2
      go_roundw
      case rel => exact ⟨b, b2, G2, by have := HB.out; omega, HB2.out, hbn, rfl, rfl, HI.out.step h1 (by have := HB.out; omega) (by have := HB.out; omega) hbn t1 t2, hB2, hch.trans hc2⟩
      case measure => simp [vInt]; have := HB2.out; omega
    · have hbn' : ((b : Int) ≤ n) = False := eq_false (by omega)
      have hi := HINS.out a n G wr h3 (Nat.le_refl _) (hA n (Nat.le_refl _) (by have := HB.out; omega)) (hE w wr hw hch) hBr
      have HH := Lib.hid hi; clear hi hA
      go_wp2_with (fail)
      refine HH.out.mono ?_
      rintro e w2 ⟨rfl, G2, t1, t2, hB2, hc2⟩
      have hbi := (HI.out.step h1 h3 (by have := HB.out; omega) (Nat.le_refl _) t1 t2).bi
      have hch2 := hch.trans hc2
      clear t1 t2 hc2 hch HI HB h1 h3 hBr hbn hbn' HH
      have HBI := Lib.hid hbi; clear hbi
      go_wp2
      go_loopw [6] (fun u wr => ∃ (c : Nat) (G : Nat → Int), (c = 20 ∨ c = 40 ∨ c = 80) ∧ u = .int .i64 c ∧ BI key F G n c ∧ Blk wr g (rowF n G ++ sp) 3 ∧ Chg [g] w wr) (fun u _ => 80 - (vInt u).toNat)
      case atStart => exact ⟨20, G2, .inl rfl, rfl, HBI.out, hB2, hch2⟩
      case round =>
        clear hB2 hch2 HBI
        obtain ⟨c, G3, hc, rfl, hbi, hBr, hch⟩ := hrel
        by_cases hcn : c < n
        · have hcn' : (c : Int) < n := by omega
          have hc : c = 20 ∨ c = 40 := by omega
          have hmi := hbi.mi
          have HMI := Lib.hid hmi; clear hmi hbi
          have e2 : 2 * (c : Int) = ((2 * c : Nat) : Int) := by omega
          obtain ⟨d, hd⟩ : ∃ d, d = 2 * c := ⟨_, rfl⟩
          rw [← hd] at e2
          have HD := Lib.hid hd; clear hd
          have hd80 : d ≤ 80 := by have := HD.out; omega
          have HC := Lib.hid hc; clear hc
          have hc80 : c ≤ 40 := by have := HC.out; omega
          obtain ⟨wo, hwo⟩ : ∃ wo : World, wo = wr := ⟨_, rfl⟩
          subst hwo
          go_wp2
          go_loopw [7, 8] (fun u v wr => ∃ (a b : Nat) (G : Nat → Int), a % d = 0 ∧ b = a + d ∧ a ≤ n ∧ u = .int .i64 a ∧ v = .int .i64 b ∧ MI key F G n c a ∧ Blk wr g (rowF n G ++ sp) 3 ∧ Chg [g] w wr) (fun _ v _ => n + d + 1 - (vInt v).toNat)
          case atStart => exact ⟨0, d, G3, by simp, by omega, by omega, rfl, rfl, HMI.out, hBr, hch⟩
          case round =>
            clear HMI hBr hch
            obtain ⟨a, b, G4, h1, h2, h3, rfl, rfl, hI, hBr, hch⟩ := hrel
            have HI := Lib.hid hI; clear hI
            have HB := Lib.hid h2; clear h2
            have H1 := Lib.hid (show a % (2 * c) = 0 by rw [← HD.out]; exact h1)
            have H1b := Lib.hid h1; clear h1
            by_cases hbn : b ≤ n
            · have hbn' : (b : Int) ≤ n := by omega
              obtain ⟨p1, p2, p3⟩ := HI.out.pre HC.out H1.out (b := b) (by have := HB.out; have := HD.out; have := HC.out; omega) (by have := HB.out; have := HD.out; omega) hbn ASC.out
              obtain ⟨m, hm⟩ : ∃ m, m = a + c := ⟨_, rfl⟩
              obtain ⟨b2, hb2⟩ : ∃ b2, b2 = b + d := ⟨_, rfl⟩
              rw [← hm] at p1 p2 p3
              have hs := HSYM.out a m b G4 wr (by have := HC.out; omega) (by have := HB.out; have := HD.out; have := HC.out; omega) hbn p1 p2 p3 (hE w wr hw hch) hBr
              have HS := Lib.hid hs; clear hs p1 p2 p3
              have e3 : (a : Int) + c = (m : Int) := by omega
              have e4 : (b : Int) + d = (b2 : Int) := by omega
              have hm2 : m < 200 := by omega
              have hb22 : b2 < 200 := by omega
              have HM := Lib.hid hm; clear hm
              have HB2 := Lib.hid hb2; clear hb2
              go_wp2_with (fail)
              refine HS.out.mono ?_
              rintro e w3 ⟨rfl, G5, t1, t2, hB3, hc3⟩
              go_wp2
              go_roundw
              case rel => exact ⟨b, b2, G5, by rw [HB.out, Nat.add_mod_right]; exact H1b.out, HB2.out, hbn, rfl, rfl, HI.out.step HC.out H1.out (by have := HB.out; omega) (by have := HB.out; have := HD.out; omega) hbn (.inl (by have := HB.out; have := HD.out; omega)) t1 t2, hB3, hch.trans hc3⟩
              case measure => simp [vInt]; have := HB2.out; have := HD.out; have := HC.out; omega
            · have hbn' : ((b : Int) ≤ n) = False := eq_false (by omega)
              obtain ⟨m, hm⟩ : ∃ m, m = a + c := ⟨_, rfl⟩
              have e3 : (a : Int) + c = (m : Int) := by omega
              by_cases hmn : m < n
              · have hmn' : (m : Int) < n := by omega
                obtain ⟨p1, p2, p3⟩ := HI.out.pre HC.out H1.out (b := n) (by omega) (by have := HB.out; have := HD.out; omega) (Nat.le_refl _) ASC.out
                rw [← hm] at p1 p2 p3
                have hs := HSYM.out a m n G4 wr (by have := HC.out; omega) hmn (Nat.le_refl _) p1 p2 p3 (hE w wr hw hch) hBr
                have HS := Lib.hid hs; clear hs p1 p2 p3
                have HM := Lib.hid hm; clear hm
                go_wp2_with (fail)
                refine HS.out.mono ?_
                rintro e w3 ⟨rfl, G5, t1, t2, hB3, hc3⟩
                have hbi := (HI.out.step HC.out H1.out h3 (by have := HB.out; have := HD.out; omega) (Nat.le_refl _) (.inr rfl) t1 t2).bi rfl
                rw [← HD.out] at hbi
                have HBI := Lib.hid hbi; clear hbi t1 t2
                have e5 : (c : Int) * 2 = (d : Int) := by have := HD.out; omega
                go_wp2
                go_roundw
                case rel => exact ⟨d, G5, by have := HD.out; have := HC.out; omega, by go_num, HBI.out, hB3, hch.trans hc3⟩
                case measure => simp [vInt]; have := HD.out; have := HC.out; omega
              · have hmn' : ((m : Int) < n) = False := eq_false (by omega)
                have hbi := (HI.out.last HC.out H1.out h3 (by omega)).bi rfl
                rw [← HD.out] at hbi
                have HBI := Lib.hid hbi; clear hbi
                have HM := Lib.hid hm; clear hm
                have e5 : (c : Int) * 2 = (d : Int) := by have := HD.out; omega
                go_wp2
                go_roundw
                case rel => exact ⟨d, G4, by have := HD.out; have := HC.out; omega, by go_num, HBI.out, hBr, hch⟩
                case measure => simp [vInt]; have := HD.out; have := HC.out; omega
        · have hcn' : ((c : Int) < n) = False := eq_false (by omega)
          have hdn := hbi.done (by omega)
          have hsh := hbi.sh
          have HDN := Lib.hid hdn; clear hdn hbi hc
          go_wp2
          go_end0
          exact ⟨rfl, G3, hsh, HDN.out, hBr, hch⟩
set_option maxRecDepth 100000 in
theorem stable_any (key : Int → Int) (f : Nat) (lb : Array Value) (xs : List Int) (sp : List Value) (g cap : Nat) (E : World → Prop) (hE : ∀ W W', E W → Chg [g] W W' → E W') (hx : xs.Pairwise (· < ·)) (hlen : xs.length < 80) (hcap : xs.length ≤ cap)
    (hf : (Try.prog.funcs[f]?).map (fun fn => (fn.name == "runtime.NumGoroutine", fn.body.isNone)) = some (false, false))
    (hcmp : ∀ W x y, E W → Calls Try.prog f (#[.int .i64 x, .int .i64 y] ++ lb) W fun e w' => ∃ c, e = .returned (.int .i64 c) ∧ (c < 0 ↔ key x < key y) ∧ Below W.heap.size W w')
    (w : World) (hw : E w) (hB : Blk w g (xs.map (.int .i64) ++ sp) 3) :
    Calls Try.prog 56 #[.slice (some ⟨g, 0, none⟩) xs.length cap, .func (.func f) #[] lb] w fun e w' => e = .returned (.tuple #[]) ∧ ∃ ys : List Int, ys.Perm xs ∧ ys.Pairwise (lexR key) ∧ Blk w' g (ys.map (.int .i64) ++ sp) 3 ∧ Chg [g] w w' := by
  have h := stableF_any key f lb sp g cap xs.length E hE hlen hf hcmp (fun k => xs.getD k 0) w (asc_of hx) hw (by rw [rowF_of]; exact hB)
  have H := Lib.hid h; clear h hB hcmp hx
  go_enter Try.func56, Try.ntmps56
  go_wp2_with (fail)
  refine H.out.mono ?_
  rintro e w2 ⟨rfl, F', t1, t2, hB2, hc2⟩
  go_wp2
  go_end0
  have hp := sh_perm t1 (Nat.le_refl _)
  rw [map_getD] at hp
  exact ⟨rfl, _, hp, srt_pair t2, by rw [← rowF_map]; exact hB2, hc2⟩
end Go.Proofs.Ytcbmifaobdamhaa
