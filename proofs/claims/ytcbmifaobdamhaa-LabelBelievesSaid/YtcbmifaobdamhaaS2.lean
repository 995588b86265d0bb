/- label: symMerge at a row of words in memory: two sorted stretches become one. -/
import Derived.Test.YtcbmifaobdamhaaS1
namespace Go.Own
/-- the word at a moved up to k -/
def insUp (F : Nat → Int) (a k : Nat) : Nat → Int := fun x => if a ≤ x ∧ x < k then F (x + 1) else if x = k then F a else F x
/-- the word at m moved down to k -/
def insDn (F : Nat → Int) (m k : Nat) : Nat → Int := fun x => if k < x ∧ x ≤ m then F (x - 1) else if x = k then F m else F x
theorem insUp_zero (F : Nat → Int) (a : Nat) : insUp F a a = F := by
  funext x; unfold insUp; rw [if_neg (by omega)]
  by_cases h : x = a
  · rw [if_pos h, h]
  · rw [if_neg h]
theorem insDn_zero (F : Nat → Int) (m : Nat) : insDn F m m = F := by
  funext x; unfold insDn; rw [if_neg (by omega)]
  by_cases h : x = m
  · rw [if_pos h, h]
  · rw [if_neg h]
theorem insUp_succ {F : Nat → Int} {a k : Nat} (h : a ≤ k) : insUp F a (k + 1) = swp (insUp F a k) k (k + 1) := by
  funext x
  unfold swp insUp
  repeat' split
  all_goals first
    | (exfalso; omega)
    | (congr 1 <;> omega)
    | rfl
theorem insDn_succ {F : Nat → Int} {m k : Nat} (h : k + 1 ≤ m) : insDn F m k = swp (insDn F m (k + 1)) (k + 1) k := by
  funext x
  unfold swp insDn
  repeat' split
  all_goals first
    | (exfalso; omega)
    | (congr 1 <;> omega)
    | rfl
theorem up_at1 {F : Nat → Int} {a k x : Nat} (h1 : a ≤ x) (h2 : x < k) : insUp F a k x = F (x + 1) := if_pos ⟨h1, h2⟩
theorem up_at2 {F : Nat → Int} {a k : Nat} : insUp F a k k = F a := by unfold insUp; rw [if_neg (by omega), if_pos rfl]
theorem up_at3 {F : Nat → Int} {a k x : Nat} (h : k < x) : insUp F a k x = F x := by unfold insUp; rw [if_neg (by omega), if_neg (by omega)]
theorem dn_at1 {F : Nat → Int} {m k x : Nat} (h1 : k < x) (h2 : x ≤ m) : insDn F m k x = F (x - 1) := if_pos ⟨h1, h2⟩
theorem dn_at2 {F : Nat → Int} {m k : Nat} : insDn F m k k = F m := by unfold insDn; rw [if_neg (by omega), if_pos rfl]
theorem dn_at3 {F : Nat → Int} {m k x : Nat} (h : x < k) : insDn F m k x = F x := by unfold insDn; rw [if_neg (by omega), if_neg (by omega)]
theorem srt_up {key : Int → Int} {F : Nat → Int} {a m b i : Nat} (hma : m = a + 1) (hs : SrtF key F m b) (hc : Crs key F a m b) (h1 : m ≤ i) (h2 : i ≤ b)
    (lo : i = m ∨ key (F (i - 1)) < key (F a)) (hi : i = b ∨ key (F a) ≤ key (F i)) : SrtF key (insUp F a (i - 1)) a b := by
  intro x y hx hxy hy
  by_cases c1 : x < i - 1
  · rw [up_at1 hx c1]
    by_cases c2 : y < i - 1
    · rw [up_at1 (by omega) c2]; exact hs _ _ (by omega) (by omega) (by omega)
    · by_cases c3 : y = i - 1
      · rw [c3, up_at2]
        have := hs.key (i := x + 1) (j := i - 1) (by omega) (by omega) (by omega)
        left; omega
      · rw [up_at3 (by omega)]; exact hs _ _ (by omega) (by omega) hy
  · by_cases c2 : x = i - 1
    · rw [c2, up_at2, up_at3 (by omega)]
      have h3 := hs.key (i := i) (j := y) h1 (by omega) hy
      have h4 := hc a y (by omega) (by omega) (by omega) hy
      rcases hi with hi | hi
      · omega
      · unfold lexR; omega
    · rw [up_at3 (by omega), up_at3 (by omega)]; exact hs _ _ (by omega) hxy hy
theorem srt_dn {key : Int → Int} {F : Nat → Int} {a m b i : Nat} (hmb : b = m + 1) (hs : SrtF key F a m) (hc : Crs key F a m b) (h1 : a ≤ i) (h2 : i ≤ m)
    (lo : i = a ∨ key (F (i - 1)) ≤ key (F m)) (hi : i = m ∨ key (F m) < key (F i)) : SrtF key (insDn F m i) a b := by
  intro x y hx hxy hy
  by_cases c1 : y < i
  · rw [dn_at3 (by omega), dn_at3 c1]; exact hs _ _ hx hxy (by omega)
  · by_cases c2 : y = i
    · subst c2
      rw [dn_at3 hxy, dn_at2]
      have h3 := hs.key (i := x) (j := y - 1) hx (by omega) (by omega)
      have h4 := hc x m hx (by omega) (Nat.le_refl _) (by omega)
      rcases lo with lo | lo
      · omega
      · unfold lexR; omega
    · rw [dn_at1 (show i < y by omega) (by omega)]
      by_cases c3 : x < i
      · rw [dn_at3 c3]; exact hs _ _ hx (by omega) (by omega)
      · by_cases c4 : x = i
        · subst c4
          rw [dn_at2]
          have h3 := hs.key (i := x) (j := y - 1) hx (by omega) (by omega)
          rcases hi with hi | hi
          · omega
          · left; omega
        · rw [dn_at1 (by omega) (by omega)]; exact hs _ _ (by omega) (by omega) (by omega)
theorem rot_at1 {F : Nat → Int} {s m e k : Nat} (h1 : s ≤ k) (h2 : k < s + (e - m)) : rot F s m e k = F (k + (m - s)) := if_pos ⟨h1, h2⟩
theorem rot_at2 {F : Nat → Int} {s m e k : Nat} (h1 : s + (e - m) ≤ k) (h2 : k < e) : rot F s m e k = F (k - (e - m)) := by
  unfold rot; rw [if_neg (by omega), if_pos ⟨h1, h2⟩]
theorem rot_at0 {F : Nat → Int} {s m e k : Nat} (h : k < s ∨ e ≤ k) (h1 : s ≤ m) (h2 : m ≤ e) : rot F s m e k = F k := by
  unfold rot; rw [if_neg (by omega), if_neg (by omega)]
theorem rot_none {F : Nat → Int} {s m e : Nat} (h1 : s ≤ m) (h2 : m ≤ e) (h : ¬ (s < m ∧ m < e)) : rot F s m e = F := by
  funext k
  unfold rot
  repeat' split
  all_goals first
    | rfl
    | (congr 1 <;> omega)
/-- What the binary search finds. -/
structure Cut3 (key : Int → Int) (F : Nat → Int) (a m b mid s e : Nat) : Prop where
  asl : a ≤ s
  sm : s ≤ m
  smid : s ≤ mid
  me : m ≤ e
  mide : mid ≤ e
  eb : e ≤ b
  se : s + (e - m) = mid
  lo : s = a ∨ e = b ∨ key (F (s - 1)) ≤ key (F e)
  hi : s = m ∨ e = m ∨ key (F (e - 1)) < key (F s)
theorem cut_left {key : Int → Int} {F : Nat → Int} {a m b mid s e : Nat} (c : Cut3 key F a m b mid s e) (h1 : SrtF key F a m) (h2 : SrtF key F m b) (h3 : Crs key F a m b) :
    SrtF key (rot F s m e) a s ∧ SrtF key (rot F s m e) s mid ∧ Crs key (rot F s m e) a s mid := by
  obtain ⟨c1, c2, c3, c4, c5, c6, c7, c8, c9⟩ := c
  refine ⟨fun i j ha hij hb => ?_, fun i j ha hij hb => ?_, fun i j ha hi hm hj => ?_⟩
  · rw [rot_at0 (by omega) c2 c4, rot_at0 (by omega) c2 c4]; exact h1 i j ha hij (by omega)
  · rw [rot_at1 ha (by omega), rot_at1 (by omega) (by omega)]; exact h2 _ _ (by omega) (by omega) (by omega)
  · rw [rot_at0 (by omega) c2 c4, rot_at1 hm (by omega)]; exact h3 _ _ ha (by omega) (by omega) (by omega)
theorem cut_right {key : Int → Int} {F : Nat → Int} {a m b mid s e : Nat} (c : Cut3 key F a m b mid s e) (h1 : SrtF key F a m) (h2 : SrtF key F m b) (h3 : Crs key F a m b) :
    SrtF key (rot F s m e) mid e ∧ SrtF key (rot F s m e) e b ∧ Crs key (rot F s m e) mid e b := by
  obtain ⟨c1, c2, c3, c4, c5, c6, c7, c8, c9⟩ := c
  refine ⟨fun i j ha hij hb => ?_, fun i j ha hij hb => ?_, fun i j ha hi hm hj => ?_⟩
  · rw [rot_at2 (by omega) (by omega), rot_at2 (by omega) hb]; exact h1 _ _ (by omega) (by omega) (by omega)
  · rw [rot_at0 (by omega) c2 c4, rot_at0 (by omega) c2 c4]; exact h2 i j (by omega) hij hb
  · rw [rot_at2 (by omega) hi, rot_at0 (by omega) c2 c4]; exact h3 _ _ (by omega) (by omega) (by omega) hj
theorem cut_across {key : Int → Int} {F : Nat → Int} {a m b mid s e : Nat} (c : Cut3 key F a m b mid s e) (h1 : SrtF key F a m) (h2 : SrtF key F m b) (h3 : Crs key F a m b) :
    ∀ i j, a ≤ i → i < mid → mid ≤ j → j < b → lexR key (rot F s m e i) (rot F s m e j) := by
  obtain ⟨c1, c2, c3, c4, c5, c6, c7, c8, c9⟩ := c
  intro i j ha hi hm hj
  by_cases hs : i < s
  · rw [rot_at0 (by omega) c2 c4]
    by_cases he : j < e
    · rw [rot_at2 (by omega) he]; exact h1 _ _ ha (by omega) (by omega)
    · rw [rot_at0 (by omega) c2 c4]
      have k1 := h1.key (i := i) (j := s - 1) ha (by omega) (by omega)
      have k2 := h2.key (i := e) (j := j) (by omega) (by omega) hj
      have k3 := h3 i j ha (by omega) (by omega) hj
      rcases c8 with c8 | c8 | c8
      · omega
      · omega
      · unfold lexR; omega
  · rw [rot_at1 (by omega) (by omega)]
    by_cases he : j < e
    · rw [rot_at2 (by omega) he]
      have k1 := h2.key (i := i + (m - s)) (j := e - 1) (by omega) (by omega) (by omega)
      have k2 := h1.key (i := s) (j := j - (e - m)) (by omega) (by omega) (by omega)
      rcases c9 with c9 | c9 | c9
      · omega
      · omega
      · left; omega
    · rw [rot_at0 (by omega) c2 c4]; exact h2 _ _ (by omega) (by omega) hj
/-- Two sorted sides. -/
theorem join_sides {key : Int → Int} {G G1 G2 : Nat → Int} {a mid b : Nat} (s1 : Sh a mid G G1) (t1 : SrtF key G1 a mid) (s2 : Sh mid b G1 G2) (t2 : SrtF key G2 mid b)
    (h : ∀ i j, a ≤ i → i < mid → mid ≤ j → j < b → lexR key (G i) (G j)) : SrtF key G2 a b := by
  refine SrtF.join (m := mid) (fun i j ha hij hb => ?_) t2 fun i j ha hi hm hj => ?_
  · rw [s2.out (.inl (by omega)), s2.out (.inl (by omega))]; exact t1 i j ha hij hb
  · rw [s2.out (.inl (by omega))]
    obtain ⟨j', a1, a2, a3⟩ := s2.mem hm hj
    obtain ⟨i', b1, b2, b3⟩ := s1.mem ha hi
    rw [a3, b3, s1.out (.inr a1)]
    exact h _ _ b1 b2 a1 a2
theorem srt_none_l {key : Int → Int} {G : Nat → Int} {a s mid : Nat} (h1 : SrtF key G a s) (h2 : SrtF key G s mid) (ha : a ≤ s) (hs : s ≤ mid) (h : ¬ (a < s ∧ s < mid)) : SrtF key G a mid := by
  by_cases e : s = a
  · rw [← e]; exact h2
  · rw [show mid = s by omega]; exact h1
end Go.Own
namespace Go.Proofs.Ytcbmifaobdamhaa
open Go.RowKit Go.Own Go.Theory Go.BigFrame Go.Shelf
attribute [local irreducible] SqC.SqW
set_option maxRecDepth 100000 in
set_option maxHeartbeats 8000000 in
theorem sym_any (key : Int → Int) (f : Nat) (lb : Array Value) (sp : List Value) (g cap n : Nat) (E : World → Prop) (hE : ∀ W W', E W → Chg [g] W W' → E W') (hn : n ≤ 1000000)
    (hf : (Try.prog.funcs[f]?).map (fun fn => (fn.name == "runtime.NumGoroutine", fn.body.isNone)) = some (false, false))
    (hcmp : ∀ W x y, E W → Calls Try.prog f (#[.int .i64 x, .int .i64 y] ++ lb) W fun e w' => ∃ c, e = .returned (.int .i64 c) ∧ (c < 0 ↔ key x < key y) ∧ Below W.heap.size W w') :
    ∀ (N a m b : Nat) (F : Nat → Int) (w : World), b - a ≤ N → a < m → m < b → b ≤ n → SrtF key F a m → SrtF key F m b → Crs key F a m b → E w → Blk w g (rowF n F ++ sp) 3 →
    Calls Try.prog 87 #[.slice (some ⟨g, 0, none⟩) n cap, .int .i64 a, .int .i64 m, .int .i64 b, .func (.func f) #[] lb] w fun e w' => e = .returned (.tuple #[]) ∧ ∃ F' : Nat → Int, Sh a b F F' ∧ SrtF key F' a b ∧ Blk w' g (rowF n F' ++ sp) 3 ∧ Chg [g] w w' := by
  intro N
  induction N with
  | zero => intro a m b F w h1 h2 h3; omega
  | succ N ih =>
  intro a m b F w hN ham hmb hbn hs1 hs2 hcr hw hB
  have IH := Lib.hid ih; clear ih
  have HCMP := Lib.hid hcmp; clear hcmp
  go_enter Try.func87, Try.ntmps87
  by_cases hma : m = a + 1
  · have e1 : ((m : Int) - a) = 1 := by omega
    have HMA := Lib.hid hma; clear hma
    go_wp2
    clear e1
    go_loopw [10, 11] (fun u v wr => ∃ i j : Nat, m ≤ i ∧ i ≤ j ∧ j ≤ b ∧ u = .int .i64 i ∧ v = .int .i64 j ∧ (i = m ∨ key (F (i - 1)) < key (F a)) ∧ (j = b ∨ key (F a) ≤ key (F j)) ∧ Blk wr g (rowF n F ++ sp) 3 ∧ Chg [g] w wr) (fun u v _ => (vInt v).toNat - (vInt u).toNat)
    case atStart => exact ⟨m, b, by omega, by omega, by omega, rfl, rfl, .inl rfl, .inl rfl, hB, Chg.refl _ _⟩
    case round =>
      obtain ⟨i, j, h1, h2, h3, rfl, rfl, h4, h5, hBr, hch⟩ := hrel
      by_cases hij : i < j
      · have hij' : (i : Int) < j := by omega
        obtain ⟨h, hh⟩ : ∃ h, h = (i + j) / 2 := ⟨_, rfl⟩
        have eh : ((i : Int) + j) / 2 = (h : Int) := by omega
        have hh1 : i ≤ h := by omega
        have hh2 : h < j := by omega
        have H4 := Lib.hid h4; clear h4
        have H5 := Lib.hid h5; clear h5
        clear hh
        have lh : (h : Int) < n := by omega
        have la : (a : Int) < n := by omega
        have eX : E wr.drew ∧ Blk wr.drew g (rowF n F ++ sp) 3 := ⟨hE w wr.drew hw hch.drew, hBr.drew⟩
        have gx : (rowF n F ++ sp)[h]? = some (.int .i64 (F (h))) := rowF_get F sp (by omega)
        have gy : (rowF n F ++ sp)[a]? = some (.int .i64 (F (a))) := rowF_get F sp (by omega)
        obtain ⟨x, hx⟩ : ∃ x, x = F (h) := ⟨_, rfl⟩
        obtain ⟨y, hy⟩ : ∃ y, y = F (a) := ⟨_, rfl⟩
        rw [← hx] at gx
        rw [← hy] at gy
        have HX := Lib.hid hx; clear hx
        have HY := Lib.hid hy; clear hy
        go_wp2
        obtain ⟨Ext, hExt⟩ : ∃ Ext : World → Prop, Ext = fun U => E U ∧ Blk U g (rowF n F ++ sp) 3 := ⟨_, rfl⟩
        have eX2 : Ext wr.drew := by rw [hExt]; exact eX
        have hU1 : ∀ U, Ext U → Blk U g (rowF n F ++ sp) 3 := fun U h => by rw [hExt] at h; exact h.2
        have hU2 : ∀ U, E U ∧ Blk U g (rowF n F ++ sp) 3 → Ext U := fun U h => by rw [hExt]; exact h
        clear hExt
        haveI : Nonempty (SqC.Come Ext) := ⟨⟨_, eX2⟩⟩
        refine SqC.wp_region_sqc 11 [9] Ext (by kernel_rfl) (by kernel_rfl) (by kernel_rfl) eX2 ?_
        iterate 4 (refine SqC.quiet rfl rfl ?_; go_big_quiet_step (fail); refine wpQuiet_nil ?_)
        refine SqC.value (.int .i64 x) rfl rfl (by intro U hU; have cx : U.cell? ⟨g, h, none⟩ = some (.int .i64 x) := (hU1 U hU).cell gx; go_simp) ?_
        simp only [Act.put, List.setIfInBounds_toArray, List.set_cons_zero, List.set_cons_succ]
        iterate 3 (refine SqC.quiet rfl rfl ?_; go_big_quiet_step (fail); refine wpQuiet_nil ?_)
        refine SqC.value (.int .i64 y) rfl rfl (by intro U hU; have cx : U.cell? ⟨g, a, none⟩ = some (.int .i64 y) := (hU1 U hU).cell gy; go_simp) ?_
        simp only [Act.put, List.setIfInBounds_toArray, List.set_cons_zero, List.set_cons_succ]
        refine SqC.effect rfl rfl ?_
        refine yields_closure rfl hf rfl (args := #[.int .i64 x, .int .i64 y]) rfl ((HCMP.out wr.drew x y eX.1).mono ?_)
        rintro e w2 ⟨c, rfl, hc0, b2⟩
        have HC0 := Lib.hid hc0; clear hc0
        have hch2 : Chg [g] w w2 := hch.trans ((Chg.refl [g] wr).drew.trans (Chg.of_below b2))
        have X2 : Blk w2 g (rowF n F ++ sp) 3 := hBr.drew.below b2 hBr.drew.lt
        refine ⟨_, rfl, fun _ => hU2 _ ⟨hE w w2 hw hch2, X2⟩, ?_⟩
        simp only [Act.put, List.setIfInBounds_toArray, List.set_cons_zero, List.set_cons_succ]
        have hc := HC0.out
        rw [HX.out, HY.out] at hc
        have HC := Lib.hid hc; clear hc HC0
        by_cases hc0 : c < 0
        · have hk := HC.out.1 hc0
          have HK := Lib.hid hk; clear hk HC
          refine SqC.value (.bool true) rfl rfl (by intro U hU; go_simp) ?_
          simp only [Act.put, List.setIfInBounds_toArray, List.set_cons_zero, List.set_cons_succ]
          refine SqC.nil ?_
          clear eX eX2 hU1 hU2 gx gy hBr hch b2
          go_wp2
          go_roundw
          case rel => exact ⟨h + 1, j, by omega, by omega, h3, by go_num, rfl, .inr HK.out, H5.out, X2, hch2⟩
          case measure => simp [vInt]; omega
        · have hk := Int.not_lt.1 fun h => hc0 (HC.out.2 h)
          have HK := Lib.hid hk; clear hk HC
          have hc1 : 0 ≤ c := by omega
          refine SqC.value (.bool false) rfl rfl (by intro U hU; go_simp) ?_
          simp only [Act.put, List.setIfInBounds_toArray, List.set_cons_zero, List.set_cons_succ]
          refine SqC.nil ?_
          clear eX eX2 hU1 hU2 gx gy hBr hch b2
          go_wp2
          go_roundw
          case rel => exact ⟨i, h, h1, by omega, by omega, rfl, rfl, H4.out, .inr HK.out, X2, hch2⟩
          case measure => simp [vInt]; omega
      · obtain rfl : i = j := by omega
        clear hij h2
        have H4 := Lib.hid h4; clear h4
        have H5 := Lib.hid h5; clear h5
        have e7 : (i : Int) - 1 = ((i - 1 : Nat) : Int) := by omega
        obtain ⟨q, hq⟩ : ∃ q, q = i - 1 := ⟨_, rfl⟩
        rw [← hq] at e7
        go_wp2
        go_loopw [13] (fun v wr => ∃ k : Nat, a ≤ k ∧ k ≤ i - 1 ∧ v = .int .i64 k ∧ Blk wr g (rowF n (insUp F a k) ++ sp) 3 ∧ Sh a b F (insUp F a k) ∧ Chg [g] w wr) (fun v _ => (i - 1) - (vInt v).toNat)
        case atStart => exact ⟨a, Nat.le_refl _, by omega, rfl, by rw [insUp_zero]; exact hBr, by rw [insUp_zero]; exact Sh.refl _ _ _, hch⟩
        case round =>
          clear hBr hch
          obtain ⟨k, k1, k2, rfl, hBr, hsh, hch⟩ := hrel
          by_cases hkq : k < q
          · have hkq' : (k : Int) < q := by omega
            have hs := insUp_succ (F := F) k1
            obtain ⟨p, hp⟩ : ∃ p, p = k + 1 := ⟨_, rfl⟩
            have e8 : (k : Int) + 1 = p := by omega
            rw [← hp] at hs
            have hsw := hsh.trans (sh_swp (insUp F a k) (i := k) (j := p) k1 (by omega) (by omega) (by omega))
            rw [← hs] at hsw
            have HSW := Lib.hid hsw; clear hsw
            have HPP := Lib.hid hp; clear hp
            obtain ⟨G, hG⟩ : ∃ G, G = insUp F a k := ⟨_, rfl⟩
            rw [← hG] at hBr hs
            have l1 : (k : Int) < n := by omega
            have l2 : (p : Int) < n := by omega
            have m1 : k < n := by omega
            have m2 : p < n := by omega
            have gp : (rowF n G ++ sp)[k]? = some (.int .i64 (G k)) := rowF_get G sp m1
            have gq : (rowF n G ++ sp)[p]? = some (.int .i64 (G p)) := rowF_get G sp m2
            obtain ⟨x, hx⟩ : ∃ x, x = G k := ⟨_, rfl⟩
            obtain ⟨y, hy⟩ : ∃ y, y = G p := ⟨_, rfl⟩
            rw [← hx] at gp
            rw [← hy] at gq
            have cx : wr.cell? ⟨g, k, none⟩ = some (.int .i64 x) := hBr.cell gp
            have cy : wr.cell? ⟨g, p, none⟩ = some (.int .i64 y) := hBr.cell gq
            have fx : wr.frozen? ⟨g, k, none⟩ = false := hBr.frozen k
            have fy : wr.frozen? ⟨g, p, none⟩ = false := hBr.frozen p
            have HX := Lib.hid hx; clear hx
            have HY := Lib.hid hy; clear hy
            have HS := Lib.hid hs; clear hs
            have HG := Lib.hid hG; clear hG
            go_wp2
            go_region
            have hB3 : Blk (((wr.setCell ⟨g, k, none⟩ (.int .i64 y)).setCell ⟨g, p, none⟩ (.int .i64 x)).drew) g (rowF n (insUp F a p) ++ sp) 3 := by
              have := (hBr.set k (.int .i64 y)).set p (.int .i64 x)
              rw [rowF_set _ _ _ m1, rowF_set _ _ _ m2, HX.out, HY.out, updF_swp, ← HS.out] at this
              rw [HX.out, HY.out]
              exact this.drew
            have hch3 : Chg [g] w (((wr.setCell ⟨g, k, none⟩ (.int .i64 y)).setCell ⟨g, p, none⟩ (.int .i64 x)).drew) := ((hch.set _ (by simp)).set _ (by simp)).drew
            go_wp2
            go_roundw
            case rel => exact ⟨p, by omega, by omega, rfl, hB3, HSW.out, hch3⟩
            case measure => simp [vInt]; omega
          · have hkq' : ((k : Int) < q) = False := eq_false (by omega)
            obtain rfl : k = q := by omega
            have hsr := srt_up HMA.out hs2 hcr (i := i) (by omega) (by omega) H4.out H5.out
            rw [← hq] at hsr
            have HSR := Lib.hid hsr; clear hsr hq
            go_wp2
            (try simp only [Exit.inBlock, Exit.then])
            refine bodyPost_ret (results_none rfl _ _ _) rfl ?_
            exact ⟨rfl, _, hsh, HSR.out, hBr, hch⟩
  have m1 : ((m : Int) - a == 1) = false := by simp; omega
  have HMA := Lib.hid hma; clear hma
  by_cases hmb1 : b = m + 1
  · have e1 : ((b : Int) - m) = 1 := by omega
    have HMB := Lib.hid hmb1; clear hmb1
    go_wp2
    clear e1
    go_loopw [14, 15] (fun u v wr => ∃ i j : Nat, a ≤ i ∧ i ≤ j ∧ j ≤ m ∧ u = .int .i64 i ∧ v = .int .i64 j ∧ (i = a ∨ key (F (i - 1)) ≤ key (F m)) ∧ (j = m ∨ key (F m) < key (F j)) ∧ Blk wr g (rowF n F ++ sp) 3 ∧ Chg [g] w wr) (fun u v _ => (vInt v).toNat - (vInt u).toNat)
    case atStart => exact ⟨a, m, by omega, by omega, by omega, rfl, rfl, .inl rfl, .inl rfl, hB, Chg.refl _ _⟩
    case round =>
      obtain ⟨i, j, h1, h2, h3, rfl, rfl, h4, h5, hBr, hch⟩ := hrel
      by_cases hij : i < j
      · have hij' : (i : Int) < j := by omega
        obtain ⟨h, hh⟩ : ∃ h, h = (i + j) / 2 := ⟨_, rfl⟩
        have eh : ((i : Int) + j) / 2 = (h : Int) := by omega
        have hh1 : i ≤ h := by omega
        have hh2 : h < j := by omega
        have H4 := Lib.hid h4; clear h4
        have H5 := Lib.hid h5; clear h5
        clear hh
        have lh : (h : Int) < n := by omega
        have la : (m : Int) < n := by omega
        have eX : E wr.drew ∧ Blk wr.drew g (rowF n F ++ sp) 3 := ⟨hE w wr.drew hw hch.drew, hBr.drew⟩
        have gx : (rowF n F ++ sp)[m]? = some (.int .i64 (F (m))) := rowF_get F sp (by omega)
        have gy : (rowF n F ++ sp)[h]? = some (.int .i64 (F (h))) := rowF_get F sp (by omega)
        obtain ⟨x, hx⟩ : ∃ x, x = F (m) := ⟨_, rfl⟩
        obtain ⟨y, hy⟩ : ∃ y, y = F (h) := ⟨_, rfl⟩
        rw [← hx] at gx
        rw [← hy] at gy
        have HX := Lib.hid hx; clear hx
        have HY := Lib.hid hy; clear hy
        go_wp2
        obtain ⟨Ext, hExt⟩ : ∃ Ext : World → Prop, Ext = fun U => E U ∧ Blk U g (rowF n F ++ sp) 3 := ⟨_, rfl⟩
        have eX2 : Ext wr.drew := by rw [hExt]; exact eX
        have hU1 : ∀ U, Ext U → Blk U g (rowF n F ++ sp) 3 := fun U h => by rw [hExt] at h; exact h.2
        have hU2 : ∀ U, E U ∧ Blk U g (rowF n F ++ sp) 3 → Ext U := fun U h => by rw [hExt]; exact h
        clear hExt
        haveI : Nonempty (SqC.Come Ext) := ⟨⟨_, eX2⟩⟩
        refine SqC.wp_region_sqc 12 [9] Ext (by kernel_rfl) (by kernel_rfl) (by kernel_rfl) eX2 ?_
        iterate 4 (refine SqC.quiet rfl rfl ?_; go_big_quiet_step (fail); refine wpQuiet_nil ?_)
        refine SqC.value (.int .i64 x) rfl rfl (by intro U hU; have cx : U.cell? ⟨g, m, none⟩ = some (.int .i64 x) := (hU1 U hU).cell gx; go_simp) ?_
        simp only [Act.put, List.setIfInBounds_toArray, List.set_cons_zero, List.set_cons_succ]
        iterate 3 (refine SqC.quiet rfl rfl ?_; go_big_quiet_step (fail); refine wpQuiet_nil ?_)
        refine SqC.value (.int .i64 y) rfl rfl (by intro U hU; have cx : U.cell? ⟨g, h, none⟩ = some (.int .i64 y) := (hU1 U hU).cell gy; go_simp) ?_
        simp only [Act.put, List.setIfInBounds_toArray, List.set_cons_zero, List.set_cons_succ]
        refine SqC.effect rfl rfl ?_
        refine yields_closure rfl hf rfl (args := #[.int .i64 x, .int .i64 y]) rfl ((HCMP.out wr.drew x y eX.1).mono ?_)
        rintro e w2 ⟨c, rfl, hc0, b2⟩
        have HC0 := Lib.hid hc0; clear hc0
        have hch2 : Chg [g] w w2 := hch.trans ((Chg.refl [g] wr).drew.trans (Chg.of_below b2))
        have X2 : Blk w2 g (rowF n F ++ sp) 3 := hBr.drew.below b2 hBr.drew.lt
        refine ⟨_, rfl, fun _ => hU2 _ ⟨hE w w2 hw hch2, X2⟩, ?_⟩
        simp only [Act.put, List.setIfInBounds_toArray, List.set_cons_zero, List.set_cons_succ]
        have hc := HC0.out
        rw [HX.out, HY.out] at hc
        have HC := Lib.hid hc; clear hc HC0
        by_cases hc0 : c < 0
        · have hk := HC.out.1 hc0
          have HK := Lib.hid hk; clear hk HC
          refine SqC.value (.bool true) rfl rfl (by intro U hU; go_simp) ?_
          simp only [Act.put, List.setIfInBounds_toArray, List.set_cons_zero, List.set_cons_succ]
          refine SqC.value (.bool false) rfl rfl (by intro U hU; go_simp) ?_
          simp only [Act.put, List.setIfInBounds_toArray, List.set_cons_zero, List.set_cons_succ]
          refine SqC.nil ?_
          clear eX eX2 hU1 hU2 gx gy hBr hch b2
          go_wp2
          go_roundw
          case rel => exact ⟨i, h, h1, by omega, by omega, rfl, rfl, H4.out, .inr HK.out, X2, hch2⟩
          case measure => simp [vInt]; omega
        · have hk := Int.not_lt.1 fun h => hc0 (HC.out.2 h)
          have HK := Lib.hid hk; clear hk HC
          have hc1 : 0 ≤ c := by omega
          refine SqC.value (.bool false) rfl rfl (by intro U hU; go_simp) ?_
          simp only [Act.put, List.setIfInBounds_toArray, List.set_cons_zero, List.set_cons_succ]
          refine SqC.value (.bool true) rfl rfl (by intro U hU; go_simp) ?_
          simp only [Act.put, List.setIfInBounds_toArray, List.set_cons_zero, List.set_cons_succ]
          refine SqC.nil ?_
          clear eX eX2 hU1 hU2 gx gy hBr hch b2
          go_wp2
          go_roundw
          case rel => exact ⟨h + 1, j, by omega, by omega, h3, by go_num, rfl, .inr HK.out, H5.out, X2, hch2⟩
          case measure => simp [vInt]; omega
      · obtain rfl : i = j := by omega
        clear hij h2
        have H4 := Lib.hid h4; clear h4
        have H5 := Lib.hid h5; clear h5
        go_wp2
        go_loopw [17] (fun v wr => ∃ k : Nat, i ≤ k ∧ k ≤ m ∧ v = .int .i64 k ∧ Blk wr g (rowF n (insDn F m k) ++ sp) 3 ∧ Sh a b F (insDn F m k) ∧ Chg [g] w wr) (fun v _ => (vInt v).toNat)
        case atStart => exact ⟨m, by omega, Nat.le_refl _, rfl, by rw [insDn_zero]; exact hBr, by rw [insDn_zero]; exact Sh.refl _ _ _, hch⟩
        case round =>
          clear hBr hch
          obtain ⟨k, k1, k2, rfl, hBr, hsh, hch⟩ := hrel
          by_cases hkq : i < k
          · have hkq' : (i : Int) < k := by omega
            obtain ⟨p, hp⟩ : ∃ p, p = k - 1 := ⟨_, rfl⟩
            have e8 : (k : Int) - 1 = p := by omega
            have hs := insDn_succ (F := F) (m := m) (k := p) (by omega)
            rw [show p + 1 = k by omega] at hs
            have hsw := hsh.trans (sh_swp (insDn F m k) (i := k) (j := p) (by omega) (by omega) (by omega) (by omega))
            rw [← hs] at hsw
            have HSW := Lib.hid hsw; clear hsw
            have HPP := Lib.hid hp; clear hp
            obtain ⟨G, hG⟩ : ∃ G, G = insDn F m k := ⟨_, rfl⟩
            rw [← hG] at hBr hs
            have l1 : (k : Int) < n := by omega
            have l2 : (p : Int) < n := by omega
            have m1 : k < n := by omega
            have m2 : p < n := by omega
            have gp : (rowF n G ++ sp)[k]? = some (.int .i64 (G k)) := rowF_get G sp m1
            have gq : (rowF n G ++ sp)[p]? = some (.int .i64 (G p)) := rowF_get G sp m2
            obtain ⟨x, hx⟩ : ∃ x, x = G k := ⟨_, rfl⟩
            obtain ⟨y, hy⟩ : ∃ y, y = G p := ⟨_, rfl⟩
            rw [← hx] at gp
            rw [← hy] at gq
            have cx : wr.cell? ⟨g, k, none⟩ = some (.int .i64 x) := hBr.cell gp
            have cy : wr.cell? ⟨g, p, none⟩ = some (.int .i64 y) := hBr.cell gq
            have fx : wr.frozen? ⟨g, k, none⟩ = false := hBr.frozen k
            have fy : wr.frozen? ⟨g, p, none⟩ = false := hBr.frozen p
            have HX := Lib.hid hx; clear hx
            have HY := Lib.hid hy; clear hy
            have HS := Lib.hid hs; clear hs
            have HG := Lib.hid hG; clear hG
            go_wp2
            go_region
            have hB3 : Blk (((wr.setCell ⟨g, k, none⟩ (.int .i64 y)).setCell ⟨g, p, none⟩ (.int .i64 x)).drew) g (rowF n (insDn F m p) ++ sp) 3 := by
              have := (hBr.set k (.int .i64 y)).set p (.int .i64 x)
              rw [rowF_set _ _ _ m1, rowF_set _ _ _ m2, HX.out, HY.out, updF_swp, ← HS.out] at this
              rw [HX.out, HY.out]
              exact this.drew
            have hch3 : Chg [g] w (((wr.setCell ⟨g, k, none⟩ (.int .i64 y)).setCell ⟨g, p, none⟩ (.int .i64 x)).drew) := ((hch.set _ (by simp)).set _ (by simp)).drew
            go_wp2
            go_roundw
            case rel => exact ⟨p, by omega, by omega, rfl, hB3, HSW.out, hch3⟩
            case measure => simp [vInt]; omega
          · have hkq' : ((i : Int) < k) = False := eq_false (by omega)
            obtain rfl : k = i := by omega
            have hsr := srt_dn HMB.out hs1 hcr (i := k) (by omega) (by omega) H4.out H5.out
            have HSR := Lib.hid hsr; clear hsr
            go_wp2
            (try simp only [Exit.inBlock, Exit.then])
            refine bodyPost_ret (results_none rfl _ _ _) rfl ?_
            exact ⟨rfl, _, hsh, HSR.out, hBr, hch⟩
  have m2 : ((b : Int) - m == 1) = false := by simp; omega
  have HMB := Lib.hid hmb1; clear hmb1
  obtain ⟨mid, hmid⟩ : ∃ mid, mid = (a + b) / 2 := ⟨_, rfl⟩
  have ea : ((a : Int) + b) / 2 = (mid : Int) := by omega
  have y1 : a + 2 ≤ mid := by have := HMA.out; have := HMB.out; omega
  have y2 : mid + 2 ≤ b := by have := HMA.out; have := HMB.out; omega
  have y3 : mid - a ≤ b - mid := by omega
  have y4 : b - mid ≤ mid - a + 1 := by omega
  clear hmid
  by_cases hmm : mid < m
  · have hmm' : (mid : Int) < m := by omega
    have e3 : ((mid : Int) + m - 1) = ((mid + m - 1 : Nat) : Int) := by omega
    obtain ⟨s0, hs0⟩ : ∃ s0, s0 = (mid + m - b) := ⟨_, rfl⟩
    obtain ⟨r0, hr0⟩ : ∃ r0, r0 = mid := ⟨_, rfl⟩
    have e4 : ((mid : Int) + m - b) = (s0 : Int) := by omega
    have z1 : mid + m = s0 + b := by omega
    obtain ⟨P, hP⟩ : ∃ P, P = mid + m - 1 := ⟨_, rfl⟩
    rw [← hP] at e3
    have z2 : P + 1 = mid + m := by omega
    have z3 : a ≤ s0 ∧ s0 ≤ r0 ∧ r0 ≤ m ∧ r0 ≤ mid ∧ mid + m ≤ s0 + b := by omega
    clear hP
    have HR0 := Lib.hid hr0; clear hr0
    have HS0 := Lib.hid hs0; clear hs0
    go_wp2
    clear e3 e4
    go_loopw [20, 21] (fun u v wr => ∃ i j : Nat, s0 ≤ i ∧ i ≤ j ∧ j ≤ r0 ∧ u = .int .i64 i ∧ v = .int .i64 j ∧ (i = s0 ∨ key (F (i - 1)) ≤ key (F (P - (i - 1)))) ∧ (j = r0 ∨ key (F (P - j)) < key (F j)) ∧ Blk wr g (rowF n F ++ sp) 3 ∧ Chg [g] w wr) (fun u v _ => (vInt v).toNat - (vInt u).toNat)
    case atStart => exact ⟨s0, r0, by omega, by omega, by omega, rfl, by rw [HR0.out], .inl rfl, .inl rfl, hB, Chg.refl _ _⟩
    case round =>
      obtain ⟨i, j, h1, h2, h3, rfl, rfl, h4, h5, hBr, hch⟩ := hrel
      by_cases hij : i < j
      · have hij' : (i : Int) < j := by omega
        obtain ⟨h, hh⟩ : ∃ h, h = (i + j) / 2 := ⟨_, rfl⟩
        have eh : ((i : Int) + j) / 2 = (h : Int) := by omega
        have hh1 : i ≤ h := by omega
        have hh2 : h < j := by omega
        have H4 := Lib.hid h4; clear h4
        have H5 := Lib.hid h5; clear h5
        clear hh
        have lh : (h : Int) < n := by omega
        have e5 : (P : Int) - h = ((P - h : Nat) : Int) := by omega
        obtain ⟨q, hq⟩ : ∃ q, q = P - h := ⟨_, rfl⟩
        rw [← hq] at e5
        have la : (q : Int) < n := by omega
        have hqn : q < n := by omega
        have HQ := Lib.hid hq; clear hq
        have eX : E wr.drew ∧ Blk wr.drew g (rowF n F ++ sp) 3 := ⟨hE w wr.drew hw hch.drew, hBr.drew⟩
        have gx : (rowF n F ++ sp)[q]? = some (.int .i64 (F (q))) := rowF_get F sp (by omega)
        have gy : (rowF n F ++ sp)[h]? = some (.int .i64 (F (h))) := rowF_get F sp (by omega)
        obtain ⟨x, hx⟩ : ∃ x, x = F (q) := ⟨_, rfl⟩
        obtain ⟨y, hy⟩ : ∃ y, y = F (h) := ⟨_, rfl⟩
        rw [← hx] at gx
        rw [← hy] at gy
        have HX := Lib.hid hx; clear hx
        have HY := Lib.hid hy; clear hy
        go_wp2
        obtain ⟨Ext, hExt⟩ : ∃ Ext : World → Prop, Ext = fun U => E U ∧ Blk U g (rowF n F ++ sp) 3 := ⟨_, rfl⟩
        have eX2 : Ext wr.drew := by rw [hExt]; exact eX
        have hU1 : ∀ U, Ext U → Blk U g (rowF n F ++ sp) 3 := fun U h => by rw [hExt] at h; exact h.2
        have hU2 : ∀ U, E U ∧ Blk U g (rowF n F ++ sp) 3 → Ext U := fun U h => by rw [hExt]; exact h
        clear hExt
        haveI : Nonempty (SqC.Come Ext) := ⟨⟨_, eX2⟩⟩
        refine SqC.wp_region_sqc 14 [11] Ext (by kernel_rfl) (by kernel_rfl) (by kernel_rfl) eX2 ?_
        iterate 6 (refine SqC.quiet rfl rfl ?_; go_big_quiet_step (fail); refine wpQuiet_nil ?_)
        refine SqC.value (.int .i64 x) rfl rfl (by intro U hU; have cx : U.cell? ⟨g, q, none⟩ = some (.int .i64 x) := (hU1 U hU).cell gx; go_simp) ?_
        simp only [Act.put, List.setIfInBounds_toArray, List.set_cons_zero, List.set_cons_succ]
        iterate 3 (refine SqC.quiet rfl rfl ?_; go_big_quiet_step (fail); refine wpQuiet_nil ?_)
        refine SqC.value (.int .i64 y) rfl rfl (by intro U hU; have cx : U.cell? ⟨g, h, none⟩ = some (.int .i64 y) := (hU1 U hU).cell gy; go_simp) ?_
        simp only [Act.put, List.setIfInBounds_toArray, List.set_cons_zero, List.set_cons_succ]
        refine SqC.effect rfl rfl ?_
        refine yields_closure rfl hf rfl (args := #[.int .i64 x, .int .i64 y]) rfl ((HCMP.out wr.drew x y eX.1).mono ?_)
        rintro e w2 ⟨c, rfl, hc0, b2⟩
        have HC0 := Lib.hid hc0; clear hc0
        have hch2 : Chg [g] w w2 := hch.trans ((Chg.refl [g] wr).drew.trans (Chg.of_below b2))
        have X2 : Blk w2 g (rowF n F ++ sp) 3 := hBr.drew.below b2 hBr.drew.lt
        refine ⟨_, rfl, fun _ => hU2 _ ⟨hE w w2 hw hch2, X2⟩, ?_⟩
        simp only [Act.put, List.setIfInBounds_toArray, List.set_cons_zero, List.set_cons_succ]
        have hc := HC0.out
        rw [HX.out, HY.out] at hc
        have HC := Lib.hid hc; clear hc HC0
        by_cases hc0 : c < 0
        · have hk := HC.out.1 hc0
          have HK := Lib.hid hk; clear hk HC
          refine SqC.value (.bool true) rfl rfl (by intro U hU; go_simp) ?_
          simp only [Act.put, List.setIfInBounds_toArray, List.set_cons_zero, List.set_cons_succ]
          refine SqC.value (.bool false) rfl rfl (by intro U hU; go_simp) ?_
          simp only [Act.put, List.setIfInBounds_toArray, List.set_cons_zero, List.set_cons_succ]
          refine SqC.nil ?_
          clear eX eX2 hU1 hU2 gx gy hBr hch b2
          go_wp2
          go_roundw
          case rel => exact ⟨i, h, h1, by omega, by omega, rfl, rfl, H4.out, .inr (HQ.out ▸ HK.out), X2, hch2⟩
          case measure => simp [vInt]; omega
        · have hk := Int.not_lt.1 fun h => hc0 (HC.out.2 h)
          have HK := Lib.hid hk; clear hk HC
          have hc1 : 0 ≤ c := by omega
          refine SqC.value (.bool false) rfl rfl (by intro U hU; go_simp) ?_
          simp only [Act.put, List.setIfInBounds_toArray, List.set_cons_zero, List.set_cons_succ]
          refine SqC.value (.bool true) rfl rfl (by intro U hU; go_simp) ?_
          simp only [Act.put, List.setIfInBounds_toArray, List.set_cons_zero, List.set_cons_succ]
          refine SqC.nil ?_
          clear eX eX2 hU1 hU2 gx gy hBr hch b2
          go_wp2
          go_roundw
          case rel => exact ⟨h + 1, j, by omega, by omega, h3, by go_num, rfl, .inr (by rw [Nat.add_sub_cancel, ← HQ.out]; exact HK.out), H5.out, X2, hch2⟩
          case measure => simp [vInt]; omega
      · obtain rfl : i = j := by omega
        clear hij h2
        have H4 := Lib.hid h4; clear h4
        have H5 := Lib.hid h5; clear h5
        obtain ⟨e, he⟩ : ∃ e, e = mid + m - i := ⟨_, rfl⟩
        have hcut : Cut3 key F a m b mid i e := by
          have := HS0.out
          have := HR0.out
          refine ⟨by omega, by omega, by omega, by omega, by omega, by omega, by omega, ?_, ?_⟩
          · rcases H4.out with h | h
            · exact .inr (.inl (by omega))
            · by_cases hz : i = s0
              · exact .inr (.inl (by omega))
              · rw [show P - (i - 1) = e by omega] at h; exact .inr (.inr h)
          · rcases H5.out with h | h
            · exact .inr (.inl (by omega))
            · rw [show P - i = e - 1 by omega] at h; exact .inr (.inr h)
        have k1 := cut_left hcut hs1 hs2 hcr
        have k2 := cut_right hcut hs1 hs2 hcr
        have k3 := cut_across hcut hs1 hs2 hcr
        obtain ⟨c1, c2, c3, c4, c5, c6, c7, _, _⟩ := hcut
        have e6 : (mid : Int) + m - i = (e : Int) := by omega
        have K1 := Lib.hid k1; clear k1
        have K2 := Lib.hid k2; clear k2
        have K3 := Lib.hid k3; clear k3 hs1 hs2 hcr he H4 H5 z3 z2 z1
        have C7 := Lib.hid c7; clear c7
        obtain ⟨G, hG⟩ : ∃ G, G = rot F i m e := ⟨_, rfl⟩
        rw [← hG] at K1 K2 K3
        have HG := Lib.hid hG; clear hG
        by_cases q0 : i < m ∧ m < e
        · have p1 : (i : Int) < m := by omega
          have p2 : (m : Int) < e := by omega
          have hrt := rot_any n i m e g cap F (.func (.func f) #[] lb) sp q0.1 q0.2 (by omega) hn wr hBr
          rw [← HG.out] at hrt
          have HRT := Lib.hid hrt; clear hrt
          go_wp2_with (fail)
          refine HRT.out.mono ?_
          rintro e7 w7 ⟨rfl, hB7, hsh7, hc7⟩
          clear p1 p2
          have hsh := hsh7.mono c1 c6
          have hch7 := hch.trans hc7
          clear hsh7 hc7
          by_cases q1 : a < i ∧ i < mid
          · have p3 : (a : Int) < i := by omega
            have p4 : (i : Int) < mid := by omega
            have hr1 := IH.out a i mid G w7 (by omega) q1.1 q1.2 (by omega) (K1.out).1 (K1.out).2.1 (K1.out).2.2 (hE w w7 hw hch7) hB7
            have HR1 := Lib.hid hr1; clear hr1
            go_wp2_with (fail)
            refine HR1.out.mono ?_
            rintro e8 w8 ⟨rfl, G1, t3, t4, hB8, hc8⟩
            clear p3 p4
            have hsd := And.intro t3 t4
            have HSD := Lib.hid hsd; clear hsd
            have hk2 : SrtF key G1 mid e ∧ SrtF key G1 e b ∧ Crs key G1 mid e b := by
              refine ⟨fun x y g1 g2 g3 => ?_, fun x y g1 g2 g3 => ?_, fun x y g1 g2 g3 g4 => ?_⟩
              · rw [t3.out (.inr (by omega)), t3.out (.inr (by omega))]; exact K2.out.1 x y g1 g2 g3
              · rw [t3.out (.inr (by omega)), t3.out (.inr (by omega))]; exact K2.out.2.1 x y g1 g2 g3
              · rw [t3.out (.inr (by omega)), t3.out (.inr (by omega))]; exact K2.out.2.2 x y g1 g2 g3 g4
            have HK2 := Lib.hid hk2; clear hk2
            have hch8 := (hch7).trans hc8
            have hsh8 := (hsh).trans (t3.mono (Nat.le_refl _) (show mid ≤ b by omega))
            clear t3 t4 hc8
            by_cases q2 : mid < e ∧ e < b
            · have q3 : (mid : Int) < e := by omega
              have q4 : (e : Int) < b := by omega
              have hr2 := IH.out mid e b G1 w8 (by omega) q2.1 q2.2 hbn (HK2.out).1 (HK2.out).2.1 (HK2.out).2.2 (hE w w8 hw hch8) hB8
              have HR2 := Lib.hid hr2; clear hr2
              go_wp2_with (fail)
              refine HR2.out.mono ?_
              rintro e9 w9 ⟨rfl, G2, t1, t2, hB9, hc9⟩
              go_wp2
              go_end0
              exact ⟨rfl, G2, (hsh8).trans (t1.mono (by omega) (Nat.le_refl _)), join_sides HSD.out.1 HSD.out.2 t1 t2 K3.out, hB9, (hch8).trans hc9⟩
            · have hsr := srt_none_l (HK2.out).1 (HK2.out).2.1 c5 c6 q2
              have HSR := Lib.hid hsr; clear hsr
              have HFIN := Lib.hid (show _ ∧ _ ∧ _ ∧ _ from ⟨hsh8, join_sides HSD.out.1 HSD.out.2 (Sh.refl mid b G1) HSR.out K3.out, hB8, hch8⟩)
              by_cases q3 : mid < e
              · have q4 : (mid : Int) < e := by omega
                have q5 : ((e : Int) < b) = False := eq_false (by omega)
                go_wp2
                go_end0
                exact ⟨rfl, _, HFIN.out⟩
              · have q4 : ((mid : Int) < e) = False := eq_false (by omega)
                go_wp2
                go_end0
                exact ⟨rfl, _, HFIN.out⟩
          · have hsd := srt_none_l (K1.out).1 (K1.out).2.1 c1 c3 q1
            have hsd2 := And.intro (Sh.refl a mid G) hsd
            have HSD := Lib.hid hsd2; clear hsd hsd2
            have HK2 := K2
            by_cases q5 : a < i
            · have p3 : (a : Int) < i := by omega
              have p4 : ((i : Int) < mid) = False := eq_false (by omega)
              by_cases q2 : mid < e ∧ e < b
              · have q3 : (mid : Int) < e := by omega
                have q4 : (e : Int) < b := by omega
                have hr2 := IH.out mid e b G w7 (by omega) q2.1 q2.2 hbn (HK2.out).1 (HK2.out).2.1 (HK2.out).2.2 (hE w w7 hw hch7) hB7
                have HR2 := Lib.hid hr2; clear hr2
                go_wp2_with (fail)
                refine HR2.out.mono ?_
                rintro e9 w9 ⟨rfl, G2, t1, t2, hB9, hc9⟩
                go_wp2
                go_end0
                exact ⟨rfl, G2, (hsh).trans (t1.mono (by omega) (Nat.le_refl _)), join_sides HSD.out.1 HSD.out.2 t1 t2 K3.out, hB9, (hch7).trans hc9⟩
              · have hsr := srt_none_l (HK2.out).1 (HK2.out).2.1 c5 c6 q2
                have HSR := Lib.hid hsr; clear hsr
                have HFIN := Lib.hid (show _ ∧ _ ∧ _ ∧ _ from ⟨hsh, join_sides HSD.out.1 HSD.out.2 (Sh.refl mid b G) HSR.out K3.out, hB7, hch7⟩)
                by_cases q3 : mid < e
                · have q4 : (mid : Int) < e := by omega
                  have q5 : ((e : Int) < b) = False := eq_false (by omega)
                  go_wp2
                  go_end0
                  exact ⟨rfl, _, HFIN.out⟩
                · have q4 : ((mid : Int) < e) = False := eq_false (by omega)
                  go_wp2
                  go_end0
                  exact ⟨rfl, _, HFIN.out⟩
            · have p3 : ((a : Int) < i) = False := eq_false (by omega)
              by_cases q2 : mid < e ∧ e < b
              · have q3 : (mid : Int) < e := by omega
                have q4 : (e : Int) < b := by omega
                have hr2 := IH.out mid e b G w7 (by omega) q2.1 q2.2 hbn (HK2.out).1 (HK2.out).2.1 (HK2.out).2.2 (hE w w7 hw hch7) hB7
                have HR2 := Lib.hid hr2; clear hr2
                go_wp2_with (fail)
                refine HR2.out.mono ?_
                rintro e9 w9 ⟨rfl, G2, t1, t2, hB9, hc9⟩
                go_wp2
                go_end0
                exact ⟨rfl, G2, (hsh).trans (t1.mono (by omega) (Nat.le_refl _)), join_sides HSD.out.1 HSD.out.2 t1 t2 K3.out, hB9, (hch7).trans hc9⟩
              · have hsr := srt_none_l (HK2.out).1 (HK2.out).2.1 c5 c6 q2
                have HSR := Lib.hid hsr; clear hsr
                have HFIN := Lib.hid (show _ ∧ _ ∧ _ ∧ _ from ⟨hsh, join_sides HSD.out.1 HSD.out.2 (Sh.refl mid b G) HSR.out K3.out, hB7, hch7⟩)
                by_cases q3 : mid < e
                · have q4 : (mid : Int) < e := by omega
                  have q5 : ((e : Int) < b) = False := eq_false (by omega)
                  go_wp2
                  go_end0
                  exact ⟨rfl, _, HFIN.out⟩
                · have q4 : ((mid : Int) < e) = False := eq_false (by omega)
                  go_wp2
                  go_end0
                  exact ⟨rfl, _, HFIN.out⟩
        · have hGF : G = F := by rw [HG.out]; exact rot_none c2 c4 q0
          have hBg : Blk wr g (rowF n G ++ sp) 3 := by rw [hGF]; exact hBr
          have hsh : Sh a b F G := by rw [hGF]; exact Sh.refl _ _ _
          clear hBr hGF
          by_cases q6 : i < m
          · have p1 : (i : Int) < m := by omega
            have p2 : ((m : Int) < e) = False := eq_false (by omega)
            by_cases q1 : a < i ∧ i < mid
            · have p3 : (a : Int) < i := by omega
              have p4 : (i : Int) < mid := by omega
              have hr1 := IH.out a i mid G wr (by omega) q1.1 q1.2 (by omega) (K1.out).1 (K1.out).2.1 (K1.out).2.2 (hE w wr hw hch) hBg
              have HR1 := Lib.hid hr1; clear hr1
              go_wp2_with (fail)
              refine HR1.out.mono ?_
              rintro e8 w8 ⟨rfl, G1, t3, t4, hB8, hc8⟩
              clear p3 p4
              have hsd := And.intro t3 t4
              have HSD := Lib.hid hsd; clear hsd
              have hk2 : SrtF key G1 mid e ∧ SrtF key G1 e b ∧ Crs key G1 mid e b := by
                refine ⟨fun x y g1 g2 g3 => ?_, fun x y g1 g2 g3 => ?_, fun x y g1 g2 g3 g4 => ?_⟩
                · rw [t3.out (.inr (by omega)), t3.out (.inr (by omega))]; exact K2.out.1 x y g1 g2 g3
                · rw [t3.out (.inr (by omega)), t3.out (.inr (by omega))]; exact K2.out.2.1 x y g1 g2 g3
                · rw [t3.out (.inr (by omega)), t3.out (.inr (by omega))]; exact K2.out.2.2 x y g1 g2 g3 g4
              have HK2 := Lib.hid hk2; clear hk2
              have hch8 := (hch).trans hc8
              have hsh8 := (hsh).trans (t3.mono (Nat.le_refl _) (show mid ≤ b by omega))
              clear t3 t4 hc8
              by_cases q2 : mid < e ∧ e < b
              · have q3 : (mid : Int) < e := by omega
                have q4 : (e : Int) < b := by omega
                have hr2 := IH.out mid e b G1 w8 (by omega) q2.1 q2.2 hbn (HK2.out).1 (HK2.out).2.1 (HK2.out).2.2 (hE w w8 hw hch8) hB8
                have HR2 := Lib.hid hr2; clear hr2
                go_wp2_with (fail)
                refine HR2.out.mono ?_
                rintro e9 w9 ⟨rfl, G2, t1, t2, hB9, hc9⟩
                go_wp2
                go_end0
                exact ⟨rfl, G2, (hsh8).trans (t1.mono (by omega) (Nat.le_refl _)), join_sides HSD.out.1 HSD.out.2 t1 t2 K3.out, hB9, (hch8).trans hc9⟩
              · have hsr := srt_none_l (HK2.out).1 (HK2.out).2.1 c5 c6 q2
                have HSR := Lib.hid hsr; clear hsr
                have HFIN := Lib.hid (show _ ∧ _ ∧ _ ∧ _ from ⟨hsh8, join_sides HSD.out.1 HSD.out.2 (Sh.refl mid b G1) HSR.out K3.out, hB8, hch8⟩)
                by_cases q3 : mid < e
                · have q4 : (mid : Int) < e := by omega
                  have q5 : ((e : Int) < b) = False := eq_false (by omega)
                  go_wp2
                  go_end0
                  exact ⟨rfl, _, HFIN.out⟩
                · have q4 : ((mid : Int) < e) = False := eq_false (by omega)
                  go_wp2
                  go_end0
                  exact ⟨rfl, _, HFIN.out⟩
            · have hsd := srt_none_l (K1.out).1 (K1.out).2.1 c1 c3 q1
              have hsd2 := And.intro (Sh.refl a mid G) hsd
              have HSD := Lib.hid hsd2; clear hsd hsd2
              have HK2 := K2
              by_cases q5 : a < i
              · have p3 : (a : Int) < i := by omega
                have p4 : ((i : Int) < mid) = False := eq_false (by omega)
                by_cases q2 : mid < e ∧ e < b
                · have q3 : (mid : Int) < e := by omega
                  have q4 : (e : Int) < b := by omega
                  have hr2 := IH.out mid e b G wr (by omega) q2.1 q2.2 hbn (HK2.out).1 (HK2.out).2.1 (HK2.out).2.2 (hE w wr hw hch) hBg
                  have HR2 := Lib.hid hr2; clear hr2
                  go_wp2_with (fail)
                  refine HR2.out.mono ?_
                  rintro e9 w9 ⟨rfl, G2, t1, t2, hB9, hc9⟩
                  go_wp2
                  go_end0
                  exact ⟨rfl, G2, (hsh).trans (t1.mono (by omega) (Nat.le_refl _)), join_sides HSD.out.1 HSD.out.2 t1 t2 K3.out, hB9, (hch).trans hc9⟩
                · have hsr := srt_none_l (HK2.out).1 (HK2.out).2.1 c5 c6 q2
                  have HSR := Lib.hid hsr; clear hsr
                  have HFIN := Lib.hid (show _ ∧ _ ∧ _ ∧ _ from ⟨hsh, join_sides HSD.out.1 HSD.out.2 (Sh.refl mid b G) HSR.out K3.out, hBg, hch⟩)
                  by_cases q3 : mid < e
                  · have q4 : (mid : Int) < e := by omega
                    have q5 : ((e : Int) < b) = False := eq_false (by omega)
                    go_wp2
                    go_end0
                    exact ⟨rfl, _, HFIN.out⟩
                  · have q4 : ((mid : Int) < e) = False := eq_false (by omega)
                    go_wp2
                    go_end0
                    exact ⟨rfl, _, HFIN.out⟩
              · have p3 : ((a : Int) < i) = False := eq_false (by omega)
                by_cases q2 : mid < e ∧ e < b
                · have q3 : (mid : Int) < e := by omega
                  have q4 : (e : Int) < b := by omega
                  have hr2 := IH.out mid e b G wr (by omega) q2.1 q2.2 hbn (HK2.out).1 (HK2.out).2.1 (HK2.out).2.2 (hE w wr hw hch) hBg
                  have HR2 := Lib.hid hr2; clear hr2
                  go_wp2_with (fail)
                  refine HR2.out.mono ?_
                  rintro e9 w9 ⟨rfl, G2, t1, t2, hB9, hc9⟩
                  go_wp2
                  go_end0
                  exact ⟨rfl, G2, (hsh).trans (t1.mono (by omega) (Nat.le_refl _)), join_sides HSD.out.1 HSD.out.2 t1 t2 K3.out, hB9, (hch).trans hc9⟩
                · have hsr := srt_none_l (HK2.out).1 (HK2.out).2.1 c5 c6 q2
                  have HSR := Lib.hid hsr; clear hsr
                  have HFIN := Lib.hid (show _ ∧ _ ∧ _ ∧ _ from ⟨hsh, join_sides HSD.out.1 HSD.out.2 (Sh.refl mid b G) HSR.out K3.out, hBg, hch⟩)
                  by_cases q3 : mid < e
                  · have q4 : (mid : Int) < e := by omega
                    have q5 : ((e : Int) < b) = False := eq_false (by omega)
                    go_wp2
                    go_end0
                    exact ⟨rfl, _, HFIN.out⟩
                  · have q4 : ((mid : Int) < e) = False := eq_false (by omega)
                    go_wp2
                    go_end0
                    exact ⟨rfl, _, HFIN.out⟩
          · have p1 : ((i : Int) < m) = False := eq_false (by omega)
            by_cases q1 : a < i ∧ i < mid
            · have p3 : (a : Int) < i := by omega
              have p4 : (i : Int) < mid := by omega
              have hr1 := IH.out a i mid G wr (by omega) q1.1 q1.2 (by omega) (K1.out).1 (K1.out).2.1 (K1.out).2.2 (hE w wr hw hch) hBg
              have HR1 := Lib.hid hr1; clear hr1
              go_wp2_with (fail)
              refine HR1.out.mono ?_
              rintro e8 w8 ⟨rfl, G1, t3, t4, hB8, hc8⟩
              clear p3 p4
              have hsd := And.intro t3 t4
              have HSD := Lib.hid hsd; clear hsd
              have hk2 : SrtF key G1 mid e ∧ SrtF key G1 e b ∧ Crs key G1 mid e b := by
                refine ⟨fun x y g1 g2 g3 => ?_, fun x y g1 g2 g3 => ?_, fun x y g1 g2 g3 g4 => ?_⟩
                · rw [t3.out (.inr (by omega)), t3.out (.inr (by omega))]; exact K2.out.1 x y g1 g2 g3
                · rw [t3.out (.inr (by omega)), t3.out (.inr (by omega))]; exact K2.out.2.1 x y g1 g2 g3
                · rw [t3.out (.inr (by omega)), t3.out (.inr (by omega))]; exact K2.out.2.2 x y g1 g2 g3 g4
              have HK2 := Lib.hid hk2; clear hk2
              have hch8 := (hch).trans hc8
              have hsh8 := (hsh).trans (t3.mono (Nat.le_refl _) (show mid ≤ b by omega))
              clear t3 t4 hc8
              by_cases q2 : mid < e ∧ e < b
              · have q3 : (mid : Int) < e := by omega
                have q4 : (e : Int) < b := by omega
                have hr2 := IH.out mid e b G1 w8 (by omega) q2.1 q2.2 hbn (HK2.out).1 (HK2.out).2.1 (HK2.out).2.2 (hE w w8 hw hch8) hB8
                have HR2 := Lib.hid hr2; clear hr2
                go_wp2_with (fail)
                refine HR2.out.mono ?_
                rintro e9 w9 ⟨rfl, G2, t1, t2, hB9, hc9⟩
                go_wp2
                go_end0
                exact ⟨rfl, G2, (hsh8).trans (t1.mono (by omega) (Nat.le_refl _)), join_sides HSD.out.1 HSD.out.2 t1 t2 K3.out, hB9, (hch8).trans hc9⟩
              · have hsr := srt_none_l (HK2.out).1 (HK2.out).2.1 c5 c6 q2
                have HSR := Lib.hid hsr; clear hsr
                have HFIN := Lib.hid (show _ ∧ _ ∧ _ ∧ _ from ⟨hsh8, join_sides HSD.out.1 HSD.out.2 (Sh.refl mid b G1) HSR.out K3.out, hB8, hch8⟩)
                by_cases q3 : mid < e
                · have q4 : (mid : Int) < e := by omega
                  have q5 : ((e : Int) < b) = False := eq_false (by omega)
                  go_wp2
                  go_end0
                  exact ⟨rfl, _, HFIN.out⟩
                · have q4 : ((mid : Int) < e) = False := eq_false (by omega)
                  go_wp2
                  go_end0
                  exact ⟨rfl, _, HFIN.out⟩
            · have hsd := srt_none_l (K1.out).1 (K1.out).2.1 c1 c3 q1
              have hsd2 := And.intro (Sh.refl a mid G) hsd
              have HSD := Lib.hid hsd2; clear hsd hsd2
              have HK2 := K2
              by_cases q5 : a < i
              · have p3 : (a : Int) < i := by omega
                have p4 : ((i : Int) < mid) = False := eq_false (by omega)
                by_cases q2 : mid < e ∧ e < b
                · have q3 : (mid : Int) < e := by omega
                  have q4 : (e : Int) < b := by omega
                  have hr2 := IH.out mid e b G wr (by omega) q2.1 q2.2 hbn (HK2.out).1 (HK2.out).2.1 (HK2.out).2.2 (hE w wr hw hch) hBg
                  have HR2 := Lib.hid hr2; clear hr2
                  go_wp2_with (fail)
                  refine HR2.out.mono ?_
                  rintro e9 w9 ⟨rfl, G2, t1, t2, hB9, hc9⟩
                  go_wp2
                  go_end0
                  exact ⟨rfl, G2, (hsh).trans (t1.mono (by omega) (Nat.le_refl _)), join_sides HSD.out.1 HSD.out.2 t1 t2 K3.out, hB9, (hch).trans hc9⟩
                · have hsr := srt_none_l (HK2.out).1 (HK2.out).2.1 c5 c6 q2
                  have HSR := Lib.hid hsr; clear hsr
                  have HFIN := Lib.hid (show _ ∧ _ ∧ _ ∧ _ from ⟨hsh, join_sides HSD.out.1 HSD.out.2 (Sh.refl mid b G) HSR.out K3.out, hBg, hch⟩)
                  by_cases q3 : mid < e
                  · have q4 : (mid : Int) < e := by omega
                    have q5 : ((e : Int) < b) = False := eq_false (by omega)
                    go_wp2
                    go_end0
                    exact ⟨rfl, _, HFIN.out⟩
                  · have q4 : ((mid : Int) < e) = False := eq_false (by omega)
                    go_wp2
                    go_end0
                    exact ⟨rfl, _, HFIN.out⟩
              · have p3 : ((a : Int) < i) = False := eq_false (by omega)
                by_cases q2 : mid < e ∧ e < b
                · have q3 : (mid : Int) < e := by omega
                  have q4 : (e : Int) < b := by omega
                  have hr2 := IH.out mid e b G wr (by omega) q2.1 q2.2 hbn (HK2.out).1 (HK2.out).2.1 (HK2.out).2.2 (hE w wr hw hch) hBg
                  have HR2 := Lib.hid hr2; clear hr2
                  go_wp2_with (fail)
                  refine HR2.out.mono ?_
                  rintro e9 w9 ⟨rfl, G2, t1, t2, hB9, hc9⟩
                  go_wp2
                  go_end0
                  exact ⟨rfl, G2, (hsh).trans (t1.mono (by omega) (Nat.le_refl _)), join_sides HSD.out.1 HSD.out.2 t1 t2 K3.out, hB9, (hch).trans hc9⟩
                · have hsr := srt_none_l (HK2.out).1 (HK2.out).2.1 c5 c6 q2
                  have HSR := Lib.hid hsr; clear hsr
                  have HFIN := Lib.hid (show _ ∧ _ ∧ _ ∧ _ from ⟨hsh, join_sides HSD.out.1 HSD.out.2 (Sh.refl mid b G) HSR.out K3.out, hBg, hch⟩)
                  by_cases q3 : mid < e
                  · have q4 : (mid : Int) < e := by omega
                    have q5 : ((e : Int) < b) = False := eq_false (by omega)
                    go_wp2
                    go_end0
                    exact ⟨rfl, _, HFIN.out⟩
                  · have q4 : ((mid : Int) < e) = False := eq_false (by omega)
                    go_wp2
                    go_end0
                    exact ⟨rfl, _, HFIN.out⟩
  · have hmm' : ((mid : Int) < m) = False := eq_false (by omega)
    have e3 : ((mid : Int) + m - 1) = ((mid + m - 1 : Nat) : Int) := by omega
    obtain ⟨s0, hs0⟩ : ∃ s0, s0 = a := ⟨_, rfl⟩
    obtain ⟨r0, hr0⟩ : ∃ r0, r0 = m := ⟨_, rfl⟩
    obtain ⟨P, hP⟩ : ∃ P, P = mid + m - 1 := ⟨_, rfl⟩
    rw [← hP] at e3
    have z2 : P + 1 = mid + m := by omega
    have z3 : a ≤ s0 ∧ s0 ≤ r0 ∧ r0 ≤ m ∧ r0 ≤ mid ∧ mid + m ≤ s0 + b := by omega
    clear hP
    have HR0 := Lib.hid hr0; clear hr0
    have HS0 := Lib.hid hs0; clear hs0
    go_wp2
    clear e3
    go_loopw [20, 21] (fun u v wr => ∃ i j : Nat, s0 ≤ i ∧ i ≤ j ∧ j ≤ r0 ∧ u = .int .i64 i ∧ v = .int .i64 j ∧ (i = s0 ∨ key (F (i - 1)) ≤ key (F (P - (i - 1)))) ∧ (j = r0 ∨ key (F (P - j)) < key (F j)) ∧ Blk wr g (rowF n F ++ sp) 3 ∧ Chg [g] w wr) (fun u v _ => (vInt v).toNat - (vInt u).toNat)
    case atStart => exact ⟨s0, r0, by omega, by omega, by omega, by rw [HS0.out], by rw [HR0.out], .inl rfl, .inl rfl, hB, Chg.refl _ _⟩
    case round =>
      obtain ⟨i, j, h1, h2, h3, rfl, rfl, h4, h5, hBr, hch⟩ := hrel
      by_cases hij : i < j
      · have hij' : (i : Int) < j := by omega
        obtain ⟨h, hh⟩ : ∃ h, h = (i + j) / 2 := ⟨_, rfl⟩
        have eh : ((i : Int) + j) / 2 = (h : Int) := by omega
        have hh1 : i ≤ h := by omega
        have hh2 : h < j := by omega
        have H4 := Lib.hid h4; clear h4
        have H5 := Lib.hid h5; clear h5
        clear hh
        have lh : (h : Int) < n := by omega
        have e5 : (P : Int) - h = ((P - h : Nat) : Int) := by omega
        obtain ⟨q, hq⟩ : ∃ q, q = P - h := ⟨_, rfl⟩
        rw [← hq] at e5
        have la : (q : Int) < n := by omega
        have hqn : q < n := by omega
        have HQ := Lib.hid hq; clear hq
        have eX : E wr.drew ∧ Blk wr.drew g (rowF n F ++ sp) 3 := ⟨hE w wr.drew hw hch.drew, hBr.drew⟩
        have gx : (rowF n F ++ sp)[q]? = some (.int .i64 (F (q))) := rowF_get F sp (by omega)
        have gy : (rowF n F ++ sp)[h]? = some (.int .i64 (F (h))) := rowF_get F sp (by omega)
        obtain ⟨x, hx⟩ : ∃ x, x = F (q) := ⟨_, rfl⟩
        obtain ⟨y, hy⟩ : ∃ y, y = F (h) := ⟨_, rfl⟩
        rw [← hx] at gx
        rw [← hy] at gy
        have HX := Lib.hid hx; clear hx
        have HY := Lib.hid hy; clear hy
        go_wp2
        obtain ⟨Ext, hExt⟩ : ∃ Ext : World → Prop, Ext = fun U => E U ∧ Blk U g (rowF n F ++ sp) 3 := ⟨_, rfl⟩
        have eX2 : Ext wr.drew := by rw [hExt]; exact eX
        have hU1 : ∀ U, Ext U → Blk U g (rowF n F ++ sp) 3 := fun U h => by rw [hExt] at h; exact h.2
        have hU2 : ∀ U, E U ∧ Blk U g (rowF n F ++ sp) 3 → Ext U := fun U h => by rw [hExt]; exact h
        clear hExt
        haveI : Nonempty (SqC.Come Ext) := ⟨⟨_, eX2⟩⟩
        refine SqC.wp_region_sqc 14 [11] Ext (by kernel_rfl) (by kernel_rfl) (by kernel_rfl) eX2 ?_
        iterate 6 (refine SqC.quiet rfl rfl ?_; go_big_quiet_step (fail); refine wpQuiet_nil ?_)
        refine SqC.value (.int .i64 x) rfl rfl (by intro U hU; have cx : U.cell? ⟨g, q, none⟩ = some (.int .i64 x) := (hU1 U hU).cell gx; go_simp) ?_
        simp only [Act.put, List.setIfInBounds_toArray, List.set_cons_zero, List.set_cons_succ]
        iterate 3 (refine SqC.quiet rfl rfl ?_; go_big_quiet_step (fail); refine wpQuiet_nil ?_)
        refine SqC.value (.int .i64 y) rfl rfl (by intro U hU; have cx : U.cell? ⟨g, h, none⟩ = some (.int .i64 y) := (hU1 U hU).cell gy; go_simp) ?_
        simp only [Act.put, List.setIfInBounds_toArray, List.set_cons_zero, List.set_cons_succ]
        refine SqC.effect rfl rfl ?_
        refine yields_closure rfl hf rfl (args := #[.int .i64 x, .int .i64 y]) rfl ((HCMP.out wr.drew x y eX.1).mono ?_)
        rintro e w2 ⟨c, rfl, hc0, b2⟩
        have HC0 := Lib.hid hc0; clear hc0
        have hch2 : Chg [g] w w2 := hch.trans ((Chg.refl [g] wr).drew.trans (Chg.of_below b2))
        have X2 : Blk w2 g (rowF n F ++ sp) 3 := hBr.drew.below b2 hBr.drew.lt
        refine ⟨_, rfl, fun _ => hU2 _ ⟨hE w w2 hw hch2, X2⟩, ?_⟩
        simp only [Act.put, List.setIfInBounds_toArray, List.set_cons_zero, List.set_cons_succ]
        have hc := HC0.out
        rw [HX.out, HY.out] at hc
        have HC := Lib.hid hc; clear hc HC0
        by_cases hc0 : c < 0
        · have hk := HC.out.1 hc0
          have HK := Lib.hid hk; clear hk HC
          refine SqC.value (.bool true) rfl rfl (by intro U hU; go_simp) ?_
          simp only [Act.put, List.setIfInBounds_toArray, List.set_cons_zero, List.set_cons_succ]
          refine SqC.value (.bool false) rfl rfl (by intro U hU; go_simp) ?_
          simp only [Act.put, List.setIfInBounds_toArray, List.set_cons_zero, List.set_cons_succ]
          refine SqC.nil ?_
          clear eX eX2 hU1 hU2 gx gy hBr hch b2
          go_wp2
          go_roundw
          case rel => exact ⟨i, h, h1, by omega, by omega, rfl, rfl, H4.out, .inr (HQ.out ▸ HK.out), X2, hch2⟩
          case measure => simp [vInt]; omega
        · have hk := Int.not_lt.1 fun h => hc0 (HC.out.2 h)
          have HK := Lib.hid hk; clear hk HC
          have hc1 : 0 ≤ c := by omega
          refine SqC.value (.bool false) rfl rfl (by intro U hU; go_simp) ?_
          simp only [Act.put, List.setIfInBounds_toArray, List.set_cons_zero, List.set_cons_succ]
          refine SqC.value (.bool true) rfl rfl (by intro U hU; go_simp) ?_
          simp only [Act.put, List.setIfInBounds_toArray, List.set_cons_zero, List.set_cons_succ]
          refine SqC.nil ?_
          clear eX eX2 hU1 hU2 gx gy hBr hch b2
          go_wp2
          go_roundw
          case rel => exact ⟨h + 1, j, by omega, by omega, h3, by go_num, rfl, .inr (by rw [Nat.add_sub_cancel, ← HQ.out]; exact HK.out), H5.out, X2, hch2⟩
          case measure => simp [vInt]; omega
      · obtain rfl : i = j := by omega
        clear hij h2
        have H4 := Lib.hid h4; clear h4
        have H5 := Lib.hid h5; clear h5
        obtain ⟨e, he⟩ : ∃ e, e = mid + m - i := ⟨_, rfl⟩
        have hcut : Cut3 key F a m b mid i e := by
          have := HS0.out
          have := HR0.out
          refine ⟨by omega, by omega, by omega, by omega, by omega, by omega, by omega, ?_, ?_⟩
          · rcases H4.out with h | h
            · exact .inl (by omega)
            · by_cases hz : i = s0
              · exact .inl (by omega)
              · rw [show P - (i - 1) = e by omega] at h; exact .inr (.inr h)
          · rcases H5.out with h | h
            · exact .inl (by omega)
            · rw [show P - i = e - 1 by omega] at h; exact .inr (.inr h)
        have k1 := cut_left hcut hs1 hs2 hcr
        have k2 := cut_right hcut hs1 hs2 hcr
        have k3 := cut_across hcut hs1 hs2 hcr
        obtain ⟨c1, c2, c3, c4, c5, c6, c7, _, _⟩ := hcut
        have e6 : (mid : Int) + m - i = (e : Int) := by omega
        have K1 := Lib.hid k1; clear k1
        have K2 := Lib.hid k2; clear k2
        have K3 := Lib.hid k3; clear k3 hs1 hs2 hcr he H4 H5 z3 z2
        have C7 := Lib.hid c7; clear c7
        obtain ⟨G, hG⟩ : ∃ G, G = rot F i m e := ⟨_, rfl⟩
        rw [← hG] at K1 K2 K3
        have HG := Lib.hid hG; clear hG
        by_cases q0 : i < m ∧ m < e
        · have p1 : (i : Int) < m := by omega
          have p2 : (m : Int) < e := by omega
          have hrt := rot_any n i m e g cap F (.func (.func f) #[] lb) sp q0.1 q0.2 (by omega) hn wr hBr
          rw [← HG.out] at hrt
          have HRT := Lib.hid hrt; clear hrt
          go_wp2_with (fail)
          refine HRT.out.mono ?_
          rintro e7 w7 ⟨rfl, hB7, hsh7, hc7⟩
          clear p1 p2
          have hsh := hsh7.mono c1 c6
          have hch7 := hch.trans hc7
          clear hsh7 hc7
          by_cases q1 : a < i ∧ i < mid
          · have p3 : (a : Int) < i := by omega
            have p4 : (i : Int) < mid := by omega
            have hr1 := IH.out a i mid G w7 (by omega) q1.1 q1.2 (by omega) (K1.out).1 (K1.out).2.1 (K1.out).2.2 (hE w w7 hw hch7) hB7
            have HR1 := Lib.hid hr1; clear hr1
            go_wp2_with (fail)
            refine HR1.out.mono ?_
            rintro e8 w8 ⟨rfl, G1, t3, t4, hB8, hc8⟩
            clear p3 p4
            have hsd := And.intro t3 t4
            have HSD := Lib.hid hsd; clear hsd
            have hk2 : SrtF key G1 mid e ∧ SrtF key G1 e b ∧ Crs key G1 mid e b := by
              refine ⟨fun x y g1 g2 g3 => ?_, fun x y g1 g2 g3 => ?_, fun x y g1 g2 g3 g4 => ?_⟩
              · rw [t3.out (.inr (by omega)), t3.out (.inr (by omega))]; exact K2.out.1 x y g1 g2 g3
              · rw [t3.out (.inr (by omega)), t3.out (.inr (by omega))]; exact K2.out.2.1 x y g1 g2 g3
              · rw [t3.out (.inr (by omega)), t3.out (.inr (by omega))]; exact K2.out.2.2 x y g1 g2 g3 g4
            have HK2 := Lib.hid hk2; clear hk2
            have hch8 := (hch7).trans hc8
            have hsh8 := (hsh).trans (t3.mono (Nat.le_refl _) (show mid ≤ b by omega))
            clear t3 t4 hc8
            by_cases q2 : mid < e ∧ e < b
            · have q3 : (mid : Int) < e := by omega
              have q4 : (e : Int) < b := by omega
              have hr2 := IH.out mid e b G1 w8 (by omega) q2.1 q2.2 hbn (HK2.out).1 (HK2.out).2.1 (HK2.out).2.2 (hE w w8 hw hch8) hB8
              have HR2 := Lib.hid hr2; clear hr2
              go_wp2_with (fail)
              refine HR2.out.mono ?_
              rintro e9 w9 ⟨rfl, G2, t1, t2, hB9, hc9⟩
              go_wp2
              go_end0
              exact ⟨rfl, G2, (hsh8).trans (t1.mono (by omega) (Nat.le_refl _)), join_sides HSD.out.1 HSD.out.2 t1 t2 K3.out, hB9, (hch8).trans hc9⟩
            · have hsr := srt_none_l (HK2.out).1 (HK2.out).2.1 c5 c6 q2
              have HSR := Lib.hid hsr; clear hsr
              have HFIN := Lib.hid (show _ ∧ _ ∧ _ ∧ _ from ⟨hsh8, join_sides HSD.out.1 HSD.out.2 (Sh.refl mid b G1) HSR.out K3.out, hB8, hch8⟩)
              by_cases q3 : mid < e
              · have q4 : (mid : Int) < e := by omega
                have q5 : ((e : Int) < b) = False := eq_false (by omega)
                go_wp2
                go_end0
                exact ⟨rfl, _, HFIN.out⟩
              · have q4 : ((mid : Int) < e) = False := eq_false (by omega)
                go_wp2
                go_end0
                exact ⟨rfl, _, HFIN.out⟩
          · have hsd := srt_none_l (K1.out).1 (K1.out).2.1 c1 c3 q1
            have hsd2 := And.intro (Sh.refl a mid G) hsd
            have HSD := Lib.hid hsd2; clear hsd hsd2
            have HK2 := K2
            by_cases q5 : a < i
            · have p3 : (a : Int) < i := by omega
              have p4 : ((i : Int) < mid) = False := eq_false (by omega)
              by_cases q2 : mid < e ∧ e < b
              · have q3 : (mid : Int) < e := by omega
                have q4 : (e : Int) < b := by omega
                have hr2 := IH.out mid e b G w7 (by omega) q2.1 q2.2 hbn (HK2.out).1 (HK2.out).2.1 (HK2.out).2.2 (hE w w7 hw hch7) hB7
                have HR2 := Lib.hid hr2; clear hr2
                go_wp2_with (fail)
                refine HR2.out.mono ?_
                rintro e9 w9 ⟨rfl, G2, t1, t2, hB9, hc9⟩
                go_wp2
                go_end0
                exact ⟨rfl, G2, (hsh).trans (t1.mono (by omega) (Nat.le_refl _)), join_sides HSD.out.1 HSD.out.2 t1 t2 K3.out, hB9, (hch7).trans hc9⟩
              · have hsr := srt_none_l (HK2.out).1 (HK2.out).2.1 c5 c6 q2
                have HSR := Lib.hid hsr; clear hsr
                have HFIN := Lib.hid (show _ ∧ _ ∧ _ ∧ _ from ⟨hsh, join_sides HSD.out.1 HSD.out.2 (Sh.refl mid b G) HSR.out K3.out, hB7, hch7⟩)
                by_cases q3 : mid < e
                · have q4 : (mid : Int) < e := by omega
                  have q5 : ((e : Int) < b) = False := eq_false (by omega)
                  go_wp2
                  go_end0
                  exact ⟨rfl, _, HFIN.out⟩
                · have q4 : ((mid : Int) < e) = False := eq_false (by omega)
                  go_wp2
                  go_end0
                  exact ⟨rfl, _, HFIN.out⟩
            · have p3 : ((a : Int) < i) = False := eq_false (by omega)
              by_cases q2 : mid < e ∧ e < b
              · have q3 : (mid : Int) < e := by omega
                have q4 : (e : Int) < b := by omega
                have hr2 := IH.out mid e b G w7 (by omega) q2.1 q2.2 hbn (HK2.out).1 (HK2.out).2.1 (HK2.out).2.2 (hE w w7 hw hch7) hB7
                have HR2 := Lib.hid hr2; clear hr2
                go_wp2_with (fail)
                refine HR2.out.mono ?_
                rintro e9 w9 ⟨rfl, G2, t1, t2, hB9, hc9⟩
                go_wp2
                go_end0
                exact ⟨rfl, G2, (hsh).trans (t1.mono (by omega) (Nat.le_refl _)), join_sides HSD.out.1 HSD.out.2 t1 t2 K3.out, hB9, (hch7).trans hc9⟩
              · have hsr := srt_none_l (HK2.out).1 (HK2.out).2.1 c5 c6 q2
                have HSR := Lib.hid hsr; clear hsr
                have HFIN := Lib.hid (show _ ∧ _ ∧ _ ∧ _ from ⟨hsh, join_sides HSD.out.1 HSD.out.2 (Sh.refl mid b G) HSR.out K3.out, hB7, hch7⟩)
                by_cases q3 : mid < e
                · have q4 : (mid : Int) < e := by omega
                  have q5 : ((e : Int) < b) = False := eq_false (by omega)
                  go_wp2
                  go_end0
                  exact ⟨rfl, _, HFIN.out⟩
                · have q4 : ((mid : Int) < e) = False := eq_false (by omega)
                  go_wp2
                  go_end0
                  exact ⟨rfl, _, HFIN.out⟩
        · have hGF : G = F := by rw [HG.out]; exact rot_none c2 c4 q0
          have hBg : Blk wr g (rowF n G ++ sp) 3 := by rw [hGF]; exact hBr
          have hsh : Sh a b F G := by rw [hGF]; exact Sh.refl _ _ _
          clear hBr hGF
          by_cases q6 : i < m
          · have p1 : (i : Int) < m := by omega
            have p2 : ((m : Int) < e) = False := eq_false (by omega)
            by_cases q1 : a < i ∧ i < mid
            · have p3 : (a : Int) < i := by omega
              have p4 : (i : Int) < mid := by omega
              have hr1 := IH.out a i mid G wr (by omega) q1.1 q1.2 (by omega) (K1.out).1 (K1.out).2.1 (K1.out).2.2 (hE w wr hw hch) hBg
              have HR1 := Lib.hid hr1; clear hr1
              go_wp2_with (fail)
              refine HR1.out.mono ?_
              rintro e8 w8 ⟨rfl, G1, t3, t4, hB8, hc8⟩
              clear p3 p4
              have hsd := And.intro t3 t4
              have HSD := Lib.hid hsd; clear hsd
              have hk2 : SrtF key G1 mid e ∧ SrtF key G1 e b ∧ Crs key G1 mid e b := by
                refine ⟨fun x y g1 g2 g3 => ?_, fun x y g1 g2 g3 => ?_, fun x y g1 g2 g3 g4 => ?_⟩
                · rw [t3.out (.inr (by omega)), t3.out (.inr (by omega))]; exact K2.out.1 x y g1 g2 g3
                · rw [t3.out (.inr (by omega)), t3.out (.inr (by omega))]; exact K2.out.2.1 x y g1 g2 g3
                · rw [t3.out (.inr (by omega)), t3.out (.inr (by omega))]; exact K2.out.2.2 x y g1 g2 g3 g4
              have HK2 := Lib.hid hk2; clear hk2
              have hch8 := (hch).trans hc8
              have hsh8 := (hsh).trans (t3.mono (Nat.le_refl _) (show mid ≤ b by omega))
              clear t3 t4 hc8
              by_cases q2 : mid < e ∧ e < b
              · have q3 : (mid : Int) < e := by omega
                have q4 : (e : Int) < b := by omega
                have hr2 := IH.out mid e b G1 w8 (by omega) q2.1 q2.2 hbn (HK2.out).1 (HK2.out).2.1 (HK2.out).2.2 (hE w w8 hw hch8) hB8
                have HR2 := Lib.hid hr2; clear hr2
                go_wp2_with (fail)
                refine HR2.out.mono ?_
                rintro e9 w9 ⟨rfl, G2, t1, t2, hB9, hc9⟩
                go_wp2
                go_end0
                exact ⟨rfl, G2, (hsh8).trans (t1.mono (by omega) (Nat.le_refl _)), join_sides HSD.out.1 HSD.out.2 t1 t2 K3.out, hB9, (hch8).trans hc9⟩
              · have hsr := srt_none_l (HK2.out).1 (HK2.out).2.1 c5 c6 q2
                have HSR := Lib.hid hsr; clear hsr
                have HFIN := Lib.hid (show _ ∧ _ ∧ _ ∧ _ from ⟨hsh8, join_sides HSD.out.1 HSD.out.2 (Sh.refl mid b G1) HSR.out K3.out, hB8, hch8⟩)
                by_cases q3 : mid < e
                · have q4 : (mid : Int) < e := by omega
                  have q5 : ((e : Int) < b) = False := eq_false (by omega)
                  go_wp2
                  go_end0
                  exact ⟨rfl, _, HFIN.out⟩
                · have q4 : ((mid : Int) < e) = False := eq_false (by omega)
                  go_wp2
                  go_end0
                  exact ⟨rfl, _, HFIN.out⟩
            · have hsd := srt_none_l (K1.out).1 (K1.out).2.1 c1 c3 q1
              have hsd2 := And.intro (Sh.refl a mid G) hsd
              have HSD := Lib.hid hsd2; clear hsd hsd2
              have HK2 := K2
              by_cases q5 : a < i
              · have p3 : (a : Int) < i := by omega
                have p4 : ((i : Int) < mid) = False := eq_false (by omega)
                by_cases q2 : mid < e ∧ e < b
                · have q3 : (mid : Int) < e := by omega
                  have q4 : (e : Int) < b := by omega
                  have hr2 := IH.out mid e b G wr (by omega) q2.1 q2.2 hbn (HK2.out).1 (HK2.out).2.1 (HK2.out).2.2 (hE w wr hw hch) hBg
                  have HR2 := Lib.hid hr2; clear hr2
                  go_wp2_with (fail)
                  refine HR2.out.mono ?_
                  rintro e9 w9 ⟨rfl, G2, t1, t2, hB9, hc9⟩
                  go_wp2
                  go_end0
                  exact ⟨rfl, G2, (hsh).trans (t1.mono (by omega) (Nat.le_refl _)), join_sides HSD.out.1 HSD.out.2 t1 t2 K3.out, hB9, (hch).trans hc9⟩
                · have hsr := srt_none_l (HK2.out).1 (HK2.out).2.1 c5 c6 q2
                  have HSR := Lib.hid hsr; clear hsr
                  have HFIN := Lib.hid (show _ ∧ _ ∧ _ ∧ _ from ⟨hsh, join_sides HSD.out.1 HSD.out.2 (Sh.refl mid b G) HSR.out K3.out, hBg, hch⟩)
                  by_cases q3 : mid < e
                  · have q4 : (mid : Int) < e := by omega
                    have q5 : ((e : Int) < b) = False := eq_false (by omega)
                    go_wp2
                    go_end0
                    exact ⟨rfl, _, HFIN.out⟩
                  · have q4 : ((mid : Int) < e) = False := eq_false (by omega)
                    go_wp2
                    go_end0
                    exact ⟨rfl, _, HFIN.out⟩
              · have p3 : ((a : Int) < i) = False := eq_false (by omega)
                by_cases q2 : mid < e ∧ e < b
                · have q3 : (mid : Int) < e := by omega
                  have q4 : (e : Int) < b := by omega
                  have hr2 := IH.out mid e b G wr (by omega) q2.1 q2.2 hbn (HK2.out).1 (HK2.out).2.1 (HK2.out).2.2 (hE w wr hw hch) hBg
                  have HR2 := Lib.hid hr2; clear hr2
                  go_wp2_with (fail)
                  refine HR2.out.mono ?_
                  rintro e9 w9 ⟨rfl, G2, t1, t2, hB9, hc9⟩
                  go_wp2
                  go_end0
                  exact ⟨rfl, G2, (hsh).trans (t1.mono (by omega) (Nat.le_refl _)), join_sides HSD.out.1 HSD.out.2 t1 t2 K3.out, hB9, (hch).trans hc9⟩
                · have hsr := srt_none_l (HK2.out).1 (HK2.out).2.1 c5 c6 q2
                  have HSR := Lib.hid hsr; clear hsr
                  have HFIN := Lib.hid (show _ ∧ _ ∧ _ ∧ _ from ⟨hsh, join_sides HSD.out.1 HSD.out.2 (Sh.refl mid b G) HSR.out K3.out, hBg, hch⟩)
                  by_cases q3 : mid < e
                  · have q4 : (mid : Int) < e := by omega
                    have q5 : ((e : Int) < b) = False := eq_false (by omega)
                    go_wp2
                    go_end0
                    exact ⟨rfl, _, HFIN.out⟩
                  · have q4 : ((mid : Int) < e) = False := eq_false (by omega)
                    go_wp2
                    go_end0
                    exact ⟨rfl, _, HFIN.out⟩
          · have p1 : ((i : Int) < m) = False := eq_false (by omega)
            by_cases q1 : a < i ∧ i < mid
            · have p3 : (a : Int) < i := by omega
              have p4 : (i : Int) < mid := by omega
              have hr1 := IH.out a i mid G wr (by omega) q1.1 q1.2 (by omega) (K1.out).1 (K1.out).2.1 (K1.out).2.2 (hE w wr hw hch) hBg
              have HR1 := Lib.hid hr1; clear hr1
              go_wp2_with (fail)
              refine HR1.out.mono ?_
              rintro e8 w8 ⟨rfl, G1, t3, t4, hB8, hc8⟩
              clear p3 p4
              have hsd := And.intro t3 t4
              have HSD := Lib.hid hsd; clear hsd
              have hk2 : SrtF key G1 mid e ∧ SrtF key G1 e b ∧ Crs key G1 mid e b := by
                refine ⟨fun x y g1 g2 g3 => ?_, fun x y g1 g2 g3 => ?_, fun x y g1 g2 g3 g4 => ?_⟩
                · rw [t3.out (.inr (by omega)), t3.out (.inr (by omega))]; exact K2.out.1 x y g1 g2 g3
                · rw [t3.out (.inr (by omega)), t3.out (.inr (by omega))]; exact K2.out.2.1 x y g1 g2 g3
                · rw [t3.out (.inr (by omega)), t3.out (.inr (by omega))]; exact K2.out.2.2 x y g1 g2 g3 g4
              have HK2 := Lib.hid hk2; clear hk2
              have hch8 := (hch).trans hc8
              have hsh8 := (hsh).trans (t3.mono (Nat.le_refl _) (show mid ≤ b by omega))
              clear t3 t4 hc8
              by_cases q2 : mid < e ∧ e < b
              · have q3 : (mid : Int) < e := by omega
                have q4 : (e : Int) < b := by omega
                have hr2 := IH.out mid e b G1 w8 (by omega) q2.1 q2.2 hbn (HK2.out).1 (HK2.out).2.1 (HK2.out).2.2 (hE w w8 hw hch8) hB8
                have HR2 := Lib.hid hr2; clear hr2
                go_wp2_with (fail)
                refine HR2.out.mono ?_
                rintro e9 w9 ⟨rfl, G2, t1, t2, hB9, hc9⟩
                go_wp2
                go_end0
                exact ⟨rfl, G2, (hsh8).trans (t1.mono (by omega) (Nat.le_refl _)), join_sides HSD.out.1 HSD.out.2 t1 t2 K3.out, hB9, (hch8).trans hc9⟩
              · have hsr := srt_none_l (HK2.out).1 (HK2.out).2.1 c5 c6 q2
                have HSR := Lib.hid hsr; clear hsr
                have HFIN := Lib.hid (show _ ∧ _ ∧ _ ∧ _ from ⟨hsh8, join_sides HSD.out.1 HSD.out.2 (Sh.refl mid b G1) HSR.out K3.out, hB8, hch8⟩)
                by_cases q3 : mid < e
                · have q4 : (mid : Int) < e := by omega
                  have q5 : ((e : Int) < b) = False := eq_false (by omega)
                  go_wp2
                  go_end0
                  exact ⟨rfl, _, HFIN.out⟩
                · have q4 : ((mid : Int) < e) = False := eq_false (by omega)
                  go_wp2
                  go_end0
                  exact ⟨rfl, _, HFIN.out⟩
            · have hsd := srt_none_l (K1.out).1 (K1.out).2.1 c1 c3 q1
              have hsd2 := And.intro (Sh.refl a mid G) hsd
              have HSD := Lib.hid hsd2; clear hsd hsd2
              have HK2 := K2
              by_cases q5 : a < i
              · have p3 : (a : Int) < i := by omega
                have p4 : ((i : Int) < mid) = False := eq_false (by omega)
                by_cases q2 : mid < e ∧ e < b
                · have q3 : (mid : Int) < e := by omega
                  have q4 : (e : Int) < b := by omega
                  have hr2 := IH.out mid e b G wr (by omega) q2.1 q2.2 hbn (HK2.out).1 (HK2.out).2.1 (HK2.out).2.2 (hE w wr hw hch) hBg
                  have HR2 := Lib.hid hr2; clear hr2
                  go_wp2_with (fail)
                  refine HR2.out.mono ?_
                  rintro e9 w9 ⟨rfl, G2, t1, t2, hB9, hc9⟩
                  go_wp2
                  go_end0
                  exact ⟨rfl, G2, (hsh).trans (t1.mono (by omega) (Nat.le_refl _)), join_sides HSD.out.1 HSD.out.2 t1 t2 K3.out, hB9, (hch).trans hc9⟩
                · have hsr := srt_none_l (HK2.out).1 (HK2.out).2.1 c5 c6 q2
                  have HSR := Lib.hid hsr; clear hsr
                  have HFIN := Lib.hid (show _ ∧ _ ∧ _ ∧ _ from ⟨hsh, join_sides HSD.out.1 HSD.out.2 (Sh.refl mid b G) HSR.out K3.out, hBg, hch⟩)
                  by_cases q3 : mid < e
                  · have q4 : (mid : Int) < e := by omega
                    have q5 : ((e : Int) < b) = False := eq_false (by omega)
                    go_wp2
                    go_end0
                    exact ⟨rfl, _, HFIN.out⟩
                  · have q4 : ((mid : Int) < e) = False := eq_false (by omega)
                    go_wp2
                    go_end0
                    exact ⟨rfl, _, HFIN.out⟩
              · have p3 : ((a : Int) < i) = False := eq_false (by omega)
                by_cases q2 : mid < e ∧ e < b
                · have q3 : (mid : Int) < e := by omega
                  have q4 : (e : Int) < b := by omega
                  have hr2 := IH.out mid e b G wr (by omega) q2.1 q2.2 hbn (HK2.out).1 (HK2.out).2.1 (HK2.out).2.2 (hE w wr hw hch) hBg
                  have HR2 := Lib.hid hr2; clear hr2
                  go_wp2_with (fail)
                  refine HR2.out.mono ?_
                  rintro e9 w9 ⟨rfl, G2, t1, t2, hB9, hc9⟩
                  go_wp2
                  go_end0
                  exact ⟨rfl, G2, (hsh).trans (t1.mono (by omega) (Nat.le_refl _)), join_sides HSD.out.1 HSD.out.2 t1 t2 K3.out, hB9, (hch).trans hc9⟩
                · have hsr := srt_none_l (HK2.out).1 (HK2.out).2.1 c5 c6 q2
                  have HSR := Lib.hid hsr; clear hsr
                  have HFIN := Lib.hid (show _ ∧ _ ∧ _ ∧ _ from ⟨hsh, join_sides HSD.out.1 HSD.out.2 (Sh.refl mid b G) HSR.out K3.out, hBg, hch⟩)
                  by_cases q3 : mid < e
                  · have q4 : (mid : Int) < e := by omega
                    have q5 : ((e : Int) < b) = False := eq_false (by omega)
                    go_wp2
                    go_end0
                    exact ⟨rfl, _, HFIN.out⟩
                  · have q4 : ((mid : Int) < e) = False := eq_false (by omega)
                    go_wp2
                    go_end0
                    exact ⟨rfl, _, HFIN.out⟩
end Go.Proofs.Ytcbmifaobdamhaa
