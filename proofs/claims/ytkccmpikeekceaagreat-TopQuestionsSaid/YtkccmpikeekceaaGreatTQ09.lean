/- top: the program's proper. -/
import Derived.Test.YtkccmpikeekceaaGreatTQ08
import Derived.Shelf.SlicesE.Index
import Derived.Test.YtkccmpikeekceaaGreatTQ01
/- top: the program's proper. -/
section
namespace Go.Top
def nI (l : List Nat) : List Int := l.map fun (j : Nat) => (j : Int)
theorem nI_row (l : List Nat) : (nI l).map (Value.int .i64) = nvs l := by unfold nI nvs; rw [List.map_map]; rfl
theorem nI_len (l : List Nat) : (nI l).length = l.length := by simp [nI]
/-- Worlds and costs that the package takes. -/
structure Proper (ws cs : List Nat) : Prop where
  one : 1 ≤ ws.length
  most : ws.length ≤ 8
  ask : cs.length ≤ 8
  lt : ∀ z ∈ ws, z < 2 ^ cs.length
  nodup : ws.Nodup
  cost : ∀ c ∈ cs, 1 ≤ c ∧ c ≤ 1024
theorem Proper.p256 {ws cs : List Nat} (h : Proper ws cs) : 2 ^ cs.length ≤ 256 := Nat.pow_le_pow_right (n := 2) (by omega) h.ask
theorem Proper.small {ws cs : List Nat} (h : Proper ws cs) : ∀ z ∈ ws, z < 256 := fun z hz => Nat.lt_of_lt_of_le (h.lt z hz) h.p256
end Go.Top
namespace Go.Proofs.YtkccmpikeekceaaGreat
open Go.RowKit Go.Own Go.Theory Go.BigFrame Go.Shelf Go.Top
set_option maxRecDepth 100000 in
theorem proper_big (ws cs : List Nat) (sa sb : Option Addr) (ca cb : Nat) (h : 8 < ws.length) (hm : ws.length ≤ 1000000) (w : World) :
    Calls Tryz.prog 23 #[.slice sa ws.length ca, .slice sb cs.length cb] w fun e w' => e = .returned (.int .i64 4) ∧ w' = w := by
  have h1 : (8 : Int) < ws.length := by omega
  have h2 : ((ws.length : Int) == 0) = false := beq_eq_false_iff_ne.2 (by omega)
  have h3 : ((ws.length : Int) = 0) = False := eq_false (by omega)
  go_enter Tryz.func23, Tryz.ntmps23
  go_wp2
  go_ret
  exact ⟨rfl, rfl⟩
/-- Is a number among the first of a list? -/
theorem contains_no (l : List Nat) (i v : Nat) (g o cap : Nat) (w : World) (hC : Cells w g o (nvs l)) (hi : i ≤ l.length) (hm : l.length ≤ 1000000) (hn : v ∉ l.take i) :
    Calls Tryz.prog 69 #[.slice (some ⟨g, o, none⟩) i cap, .int .i64 v] w fun e w' => e = .returned (.bool false) ∧ w' = w := by
  by_cases h0 : i = 0
  · subst h0
    exact AnyE.slices_Contains_empty Tryz.ct61 _ cap _ w
  · have hcon := AnyE.slices_Contains Tryz.ct61 (Value.int .i64) (fun x y => x == y) (EqlAt.int _ _ .i64) g o i cap (nI l) (v : Int) w (by rw [nI_len]; exact hi) (by omega) (fun j hj => hC j _ (by
      rw [← nI_row]; exact getBang (nI l) _ j (by first | exact hj | (rw [nI_len]; omega))))
    refine hcon.mono ?_
    rintro e w' ⟨rfl, rfl⟩
    refine ⟨?_, rfl⟩
    congr 2
    rw [List.any_eq_false]
    intro z hz
    have hz' : z ∈ (l.take i).map fun (j : Nat) => (j : Int) := by rw [List.map_take]; exact hz
    obtain ⟨x, hx, rfl⟩ := List.mem_map.1 hz'
    have : x ≠ v := fun e => hn (e ▸ hx)
    simp
    omega
set_option maxRecDepth 100000 in
set_option maxHeartbeats 1600000 in
theorem proper_ok (ws cs : List Nat) (sa sb : Option Addr) (ca cb : Nat) (hp : Proper ws cs) (w : World) (h1 : Sl w 1 (.slice sa ws.length ca) ws.length (nvs ws)) (h2 : Sl w 1 (.slice sb cs.length cb) cs.length (nvs cs)) :
    Calls Tryz.prog 23 #[.slice sa ws.length ca, .slice sb cs.length cb] w fun e w' => e = .returned (.int .i64 0) ∧ Below w.heap.size w w' := by
  have hwp := wrap_pow (n := cs.length) (by have := hp.ask; omega)
  have h256 := hp.p256
  have hlt := hp.lt
  obtain ⟨M, hM⟩ : ∃ M, M = 2 ^ cs.length := ⟨_, rfl⟩
  rw [← hM] at hwp h256
  simp only [← hM] at hlt
  clear hM
  have hone := hp.one
  have hmost := hp.most
  have hask := hp.ask
  have HP := Lib.hid hp; clear hp
  have e1 : ((ws.length : Int) == 0) = false := beq_eq_false_iff_ne.2 (by omega)
  have e2 : ((ws.length : Int) = 0) = False := eq_false (by omega)
  obtain ⟨g, o, rfl, _, hcap, hC, hg⟩ := sl_at h1 (by omega)
  have h2' := h2
  rw [← nI_row, ← nI_len cs] at h2'
  have hcf : Calls Tryz.prog 70 #[.slice sb (nI cs).length cb, .func (.func 71) #[] #[]] w _ := cf_any Tryz.lc65 _ 71 _ (enters_of Tryz.func71 (by kernel_rfl) rfl) (nI cs) sb cb w (badC w) h2' (by rw [nI_len]; omega)
  have hany : (nI cs).any (fun x => decide (x < 1) || decide (1024 < x)) = false := by
    rw [List.any_eq_false]
    intro z hz
    obtain ⟨x, hx, rfl⟩ := List.mem_map.1 hz
    have := HP.out.cost x hx
    simp only [Bool.or_eq_true, decide_eq_true_eq]
    omega
  rw [hany, nI_len] at hcf
  clear hany h2'
  have HCF := Lib.hid hcf; clear hcf
  have HLT := Lib.hid hlt; clear hlt
  have HC := Lib.hid hC; clear hC h1 h2
  go_enter Tryz.func23, Tryz.ntmps23
  go_wp2
  go_loopw [22] (fun c wr => ∃ i : Nat, i ≤ ws.length ∧ c = .int .i64 i ∧ wr = w) (fun c _ => ws.length - (vInt c).toNat)
  case atStart => exact ⟨0, by omega, rfl, rfl⟩
  case round =>
    obtain ⟨i, hi, rfl, rfl⟩ := hrel
    by_cases hil : i < ws.length
    · obtain ⟨x, hx⟩ : ∃ x, x = ws[i] := ⟨_, rfl⟩
      have hxM : x < M := by rw [hx]; exact HLT.out _ (List.getElem_mem _)
      have cx : wr.cell? ⟨g, o + i, none⟩ = some (.int .i64 x) := HC.out i _ (nvs_at hil hx)
      have hno : x ∉ ws.take i := by
        intro hm
        obtain ⟨j, hj, e⟩ := List.getElem_of_mem hm
        rw [List.getElem_take] at e
        have hj' : j < i := by rw [List.length_take] at hj; omega
        exact List.pairwise_iff_getElem.1 HP.out.nodup j i (by omega) hil hj' (e.trans hx)
      have hcon := contains_no ws i x g o ca wr HC.out hi (by omega) hno
      have HCON := Lib.hid hcon; clear hcon hno
      clear hx
      have hil' : (i : Int) < ws.length := by omega
      have hxM' : (x : Int) < M := by omega
      go_wp2_with (fail)
      refine HCON.out.mono ?_
      rintro e w2 ⟨rfl, rfl⟩
      go_wp2
      go_roundw
      case rel => exact ⟨i + 1, by omega, by go_num, trivial⟩
      case measure => simp [vInt]; omega
    · have hil' : ((i : Int) < ws.length) = False := eq_false (by omega)
      go_wp2_with (fail)
      refine HCF.out.mono ?_
      rintro e w2 ⟨rfl, q, rfl⟩
      go_wp2
      go_ret
      exact ⟨rfl, below_drewN (Below.refl _ _) q⟩
end Go.Proofs.YtkccmpikeekceaaGreat
end
/- top: the program's follow. -/
section
namespace Go.Top
open Go.RowKit Go.Own
theorem Two.low {X w w' : World} {t : TypeId} {v1 v2 : Value} {A B : List Nat} (h : Two X w t v1 v2 A B) (hb : Below w.heap.size w w') : Two X w' t v1 v2 A B :=
  ⟨own_below h.a hb, own_below h.b hb, h.ne, h.below.trans (hb.mono h.below.size)⟩
theorem fol_le {ws cs : List Nat} (hc : ∀ c ∈ cs, 1 ≤ c ∧ c ≤ 1024) : ∀ {t : Tr} {l : List Nat} {c : Nat}, folT ws cs t l = some c → c + 1024 ≤ 1024 * l.length
  | .leaf i, l, c, h => by
    simp only [folT] at h
    split at h
    · rename_i e; subst e; injection h with h; subst h; simp
    · cases h
  | .node k a b, l, c, h => by
    simp only [folT] at h
    split at h
    · cases h
    · rename_i hk
      split at h
      · rename_i x y e1 e2
        injection h with h
        have h1 := fol_le hc e1
        have h2 := fol_le hc e2
        have hs := split_len ws k l
        have hk' : k < cs.length := Nat.lt_of_not_le fun h => hk (.inr h)
        have hck : cs.getD k 0 ≤ 1024 := by rw [List.getD_eq_getElem?_getD, List.getElem?_eq_getElem hk']; exact (hc _ (List.getElem_mem _)).2
        have n1 : 1 ≤ (noL ws k l).length := by omega
        have n2 : 1 ≤ (yesL ws k l).length := by omega
        omega
      · cases h
theorem fol_node {ws cs : List Nat} {k : Nat} {a b : Tr} {l : List Nat} {c : Nat} (h : folT ws cs (.node k a b) l = some c) : l ≠ [] ∧ k < cs.length ∧ ∃ x y, folT ws cs a (noL ws k l) = some x ∧ folT ws cs b (yesL ws k l) = some y ∧ c = cs.getD k 0 + max x y := by
  simp only [folT] at h
  split at h
  · cases h
  · rename_i hk
    split at h
    · rename_i x y e1 e2
      injection h with h
      exact ⟨fun e => hk (.inl e), Nat.lt_of_not_le fun h => hk (.inr h), x, y, e1, e2, h.symm⟩
    · cases h
theorem fol_leaf {ws cs : List Nat} {i : Nat} {l : List Nat} {c : Nat} (h : folT ws cs (.leaf i) l = some c) : l = [i] ∧ c = 0 := by
  simp only [folT] at h
  split at h
  · rename_i e; injection h with h; exact ⟨e, h.symm⟩
  · cases h
end Go.Top
namespace Go.Proofs.YtkccmpikeekceaaGreat
open Go.RowKit Go.Own Go.Theory Go.BigFrame Go.Shelf Go.Top
set_option maxRecDepth 100000 in
set_option maxHeartbeats 3200000 in
theorem follow_any (ws cs : List Nat) (sa sb : Option Addr) (ca cb : Nat) (hws : ∀ z ∈ ws, z < 256) (hcs : cs.length ≤ 8) (hcc : ∀ c ∈ cs, 1 ≤ c ∧ c ≤ 1024) :
    ∀ (t : Tr) (l : List Nat) (c : Nat) (sl : Option Addr) (cl b : Nat) (w : World), folT ws cs t l = some c → (∀ i ∈ l, i < ws.length) → l.length ≤ 8 →
    Sl w 1 (.slice sa ws.length ca) ws.length (nvs ws) → Sl w 1 (.slice sb cs.length cb) cs.length (nvs cs) → Sl w 1 (.slice sl l.length cl) l.length (nvs l) → TrAt tT w (.pointer (some ⟨b, 0, none⟩)) t →
    Calls Tryz.prog 32 #[.slice sa ws.length ca, .slice sb cs.length cb, .slice sl l.length cl, .pointer (some ⟨b, 0, none⟩)] w fun e w' => e = .returned (.tuple #[.int .i64 (c : Int), .bool true]) ∧ Below w.heap.size w w' := by
  intro t
  induction t with
  | leaf i =>
    intro l c sl cl b w hf hl hl8 h1 h2 h3 hT
    obtain ⟨rfl, rfl⟩ := fol_leaf hf
    obtain ⟨b', e, hB⟩ := hT
    injection e with e; injection e with e; injection e with e; subst e
    simp only [List.length_cons, List.length_nil, Nat.zero_add] at h3 ⊢
    obtain ⟨g, o, rfl, _, _, hC, hg⟩ := sl_at h3 (by omega)
    have cx : w.cell? ⟨g, o, none⟩ = some (.int .i64 (i : Int)) := hC 0 _ rfl
    have c0 : w.cell? ⟨b, 0, none⟩ = some (.int .i64 (-1)) := hB.cell rfl
    have c1 : w.cell? ⟨b, 1, none⟩ = some (.pointer none) := hB.cell rfl
    have c2 : w.cell? ⟨b, 2, none⟩ = some (.pointer none) := hB.cell rfl
    have c3 : w.cell? ⟨b, 3, none⟩ = some (.int .i64 (i : Int)) := hB.cell rfl
    clear hC hB h1 h2 h3 hl hf
    go_enter Tryz.func32, Tryz.ntmps32
    go_wp2
    refine wp_region_quiet_lit (by kernel_rfl) (by kernel_rfl) ?_
    repeat (go_big_quiet_step (rfl))
    refine wpQuiet_nil ?_
    rintro _ ⟨n, rfl⟩
    go_wp2
    go_ret2
    exact ⟨rfl, below_drewN (Below.refl _ _) n⟩
  | node k x y ihx ihy =>
    intro l c sl cl b w hf hl hl8 h1 h2 h3 hT
    obtain ⟨hne, hk, cA, cB, fx, fy, hcc2⟩ := fol_node hf
    obtain ⟨b', pa, pc, e, hB, hTx, hTy⟩ := hT
    injection e with e; injection e with e; injection e with e; subst e
    have lx := fol_le hcc fx
    have ly := fol_le hcc fy
    have hsp := split_len ws k l
    have hn0 : 0 < l.length := List.length_pos_iff.2 hne
    have hck : cs.getD k 0 ≤ 1024 := by rw [List.getD_eq_getElem?_getD, List.getElem?_eq_getElem hk]; exact (hcc _ (List.getElem_mem _)).2
    have e1 : ((l.length : Int) == 0) = false := beq_eq_false_iff_ne.2 (by omega)
    have e2 : ((l.length : Int) = 0) = False := eq_false (by omega)
    have hk8 : k < 8 := by omega
    have hkc : (k : Int) < cs.length := by omega
    have hkm : ((k : Int) == -1) = false := beq_eq_false_iff_ne.2 (by omega)
    have hkm2 : ((k : Int) = -1) = False := eq_false (by omega)
    have hcells : ∀ U, Below w.heap.size w U → U.cell? ⟨b, 0, none⟩ = some (.int .i64 (k : Int)) ∧ U.cell? ⟨b, 1, none⟩ = some (.pointer (some ⟨pa, 0, none⟩)) ∧ U.cell? ⟨b, 2, none⟩ = some (.pointer (some ⟨pc, 0, none⟩)) ∧ U.cell? ⟨b, 3, none⟩ = some (.int .i64 (-1)) := fun U hU => by
      have hB' := hB.below hU hB.lt
      exact ⟨hB'.cell rfl, hB'.cell rfl, hB'.cell rfl, hB'.cell rfl⟩
    obtain ⟨g2, o2, rfl, _, _, hC2, hg2⟩ := sl_at h2 (by omega)
    obtain ⟨ck, hckv⟩ : ∃ ck, ck = cs.getD k 0 := ⟨_, rfl⟩
    have hcost : ∀ U, Below w.heap.size w U → U.cell? ⟨g2, o2 + k, none⟩ = some (.int .i64 (ck : Int)) := fun U hU => (hU.cell (p := ⟨g2, o2 + k, none⟩) hg2).trans (hC2 k _ (nvs_at hk (by rw [hckv, List.getD_eq_getElem?_getD, List.getElem?_eq_getElem hk]; rfl)))
    rw [← hckv] at hck hcc2
    have HCC := Lib.hid hcc2; clear hcc2 hckv
    have hcx := ihx (noL ws k l) cA
    have hcy := ihy (yesL ws k l) cB
    have hAl : ∀ i ∈ noL ws k l, i < ws.length := fun i hi => hl i (List.mem_filter.1 hi).1
    have hBl : ∀ i ∈ yesL ws k l, i < ws.length := fun i hi => hl i (List.mem_filter.1 hi).1
    have HX := Lib.hid (fun sl cl b w h => hcx sl cl b w fx hAl (by omega) h); clear hcx ihx
    have HY := Lib.hid (fun sl cl b w h => hcy sl cl b w fy hBl (by omega) h); clear hcy ihy hAl hBl
    have HTX := Lib.hid hTx; clear hTx
    have HTY := Lib.hid hTy; clear hTy
    have H1 := Lib.hid h1; clear h1
    have H2 := Lib.hid h2; clear h2
    have HLX := Lib.hid (show cA ≤ 8192 ∧ cB ≤ 8192 by omega)
    have HL := Lib.hid hl; clear hl
    have HCE := Lib.hid hcells; clear hcells
    have HCO := Lib.hid hcost; clear hcost hC2 hB lx ly hsp hf fx fy hne
    obtain ⟨c0, c1, c2, c3⟩ := HCE.out w (Below.refl _ _)
    go_enter Tryz.func32, Tryz.ntmps32
    go_wp2
    clear c0 c1 c2 c3
    go_loopw [10, 11, 82] (fun v1 v2 c wr => ∃ (i : Nat) (A B : List Nat), i ≤ l.length ∧ c = .int .i64 i ∧ A = noL ws k (l.take i) ∧ B = yesL ws k (l.take i) ∧ Two w wr 3 v1 v2 A B) (fun _ _ c _ => l.length - (vInt c).toNat)
    case atStart => exact ⟨0, [], [], by omega, rfl, rfl, rfl, Two.start _ _⟩
    case round =>
      obtain ⟨i, A, B, hi, rfl, hA, hB, hT⟩ := hrel
      have lA : A.length ≤ i := by rw [hA]; exact filter_len_le _ _ _
      have lB : B.length ≤ i := by rw [hB]; exact filter_len_le _ _ _
      by_cases hil : i < l.length
      · have hil' : (i : Int) < l.length := by omega
        obtain ⟨z, hz⟩ : ∃ z, z = l[i] := ⟨_, rfl⟩
        have hzw : z < ws.length := by rw [hz]; exact HL.out _ (List.getElem_mem _)
        obtain ⟨s, hs⟩ : ∃ s, s = ws[z] := ⟨_, rfl⟩
        have hs6 : s < 256 := by rw [hs]; exact hws _ (List.getElem_mem _)
        have hq : hasQ ws k z = s.testBit k := by unfold hasQ; rw [List.getD_eq_getElem?_getD, List.getElem?_eq_getElem hzw, hs]; rfl
        have nA := noL_succ (ws := ws) (k := k) hil hz
        have nB := yesL_succ (ws := ws) (k := k) hil hz
        rw [← hA, hq] at nA
        rw [← hB, hq] at nB
        have d1 := H1.out.below hT.below
        have d2 := h3.below hT.below
        obtain ⟨g1, o1, rfl, _, _, hC1, hg1⟩ := sl_at d1 (by omega)
        obtain ⟨g3, o3, rfl, _, _, hC3, hg3⟩ := sl_at d2 (by omega)
        have cz : wr.cell? ⟨g3, o3 + i, none⟩ = some (.int .i64 z) := hC3 i _ (nvs_at hil hz)
        have cs' : wr.cell? ⟨g1, o1 + z, none⟩ = some (.int .i64 s) := hC1 z _ (nvs_at hzw hs)
        have c0 := (HCE.out wr hT.below).1
        have hsz := hT.below.size
        have hzw' : (z : Int) < ws.length := by omega
        have hbit := eq1 (s := s) (k := k) (by omega)
        obtain ⟨q, hqq⟩ : ∃ q, q = s.testBit k := ⟨_, rfl⟩
        rw [← hqq] at nA nB hbit
        have NA := Lib.hid nA; clear nA
        have NB := Lib.hid nB; clear nB
        have HT0 := Lib.hid hT; clear hT
        clear hA hB hqq hq hs hz d1 d2 hC1 hC3
        go_wp2
        refine wp_region_quiet_lit (by kernel_rfl) (by kernel_rfl) ?_
        repeat (go_big_quiet_step (rfl))
        refine wpQuiet_nil ?_
        rintro _ ⟨nd, rfl⟩
        clear c0 cz cs'
        have T0 := HT0.out.low (below_drewN (Below.refl wr.heap.size wr) nd)
        obtain ⟨w2, hw2⟩ : ∃ w2, w2 = wr.drewN nd := ⟨_, rfl⟩
        rw [← hw2] at T0 ⊢
        clear hw2
        have hsz2 := T0.below.size
        have HT1 := Lib.hid (T0.alloc (.cells #[.int .i64 z] 3)); clear T0
        cases q with
        | true =>
          go_wp2_with (refine wpList_append_where rfl _ _ 22 rfl w.heap.size 3 (.int .i64 0) 1 8 hTintT infoIntT rfl (by decide) _ B.length (nvs B) rfl HT1.out.b ⟨w2.heap.size, 0, none⟩ 1 1 [.int .i64 z] rfl rfl (by
                intro j u hj
                rw [Addr.add_lit, Nat.zero_add]; exact (Blk.new w2 #[.int .i64 z] 3).cell hj) (by intro u hu; simp at hu; rw [hu]; rfl) (by unfold maxLen; omega) (by omega) (by simp; omega) ?_)
          intro v' w' h3 h4 h5
          have T2 := HT1.out.snd h3 h4 (fun b hb => by simpa using h5 b hb)
          go_wp2
          go_roundw
          case rel => exact ⟨i + 1, _, _, by omega, by go_num, by rw [NA.out]; simp, by rw [NB.out]; rfl, T2⟩
          case measure => simp [vInt]; omega
        | false =>
          go_wp2_with (refine wpList_append_where rfl _ _ 22 rfl w.heap.size 3 (.int .i64 0) 1 8 hTintT infoIntT rfl (by decide) _ A.length (nvs A) rfl HT1.out.a ⟨w2.heap.size, 0, none⟩ 1 1 [.int .i64 z] rfl rfl (by
                intro j u hj
                rw [Addr.add_lit, Nat.zero_add]; exact (Blk.new w2 #[.int .i64 z] 3).cell hj) (by intro u hu; simp at hu; rw [hu]; rfl) (by unfold maxLen; omega) (by omega) (by simp; omega) ?_)
          intro v' w' h3 h4 h5
          have T2 := HT1.out.fst h3 h4 (fun b hb => by simpa using h5 b hb)
          go_wp2
          go_roundw
          case rel => exact ⟨i + 1, _, _, by omega, by go_num, by rw [NA.out]; rfl, by rw [NB.out]; simp, T2⟩
          case measure => simp [vInt]; omega
      · obtain rfl : i = l.length := by omega
        rw [List.take_length] at hA hB
        obtain ⟨sA, kA, eA, _⟩ := own_slice hT.a
        obtain ⟨sB, kB, eB, _⟩ := own_slice hT.b
        subst eA eB
        have SA := Sl.of_owns hT.a
        have SB := Sl.of_owns hT.b
        rw [hA] at SA
        rw [hB] at SB
        have bwr := hT.below
        have hcx := fun h => HX.out sA kA pa wr (H1.out.below bwr) (H2.out.below bwr) h (HTX.out.below bwr)
        have hcx := hcx SA
        rw [← hA] at hcx
        have SB := Lib.hid SB; clear SA
        have c0 := (HCE.out wr bwr).1
        have c1 := (HCE.out wr bwr).2.1
        have HA := Lib.hid hA; clear hA
        have HB' := Lib.hid hB; clear hB
        have HBW := Lib.hid bwr; clear bwr hT
        go_wp2_with (fail)
        refine hcx.mono ?_
        clear hcx c0 c1
        rintro e w3 ⟨rfl, hb3⟩
        have bw3 := HBW.out.trans (hb3.mono HBW.out.size)
        have hcy := HY.out sB kB pc w3 (H1.out.below bw3) (H2.out.below bw3) (SB.out.below hb3) (HTY.out.below bw3)
        rw [← HB'.out] at hcy
        have c0 := (HCE.out w3 bw3).1
        have c2 := (HCE.out w3 bw3).2.2.1
        have HBW3 := Lib.hid bw3; clear bw3 hb3
        go_wp2_with (fail)
        refine hcy.mono ?_
        clear hcy c0 c2
        rintro e w4 ⟨rfl, hb4⟩
        have bw4 := HBW3.out.trans (hb4.mono HBW3.out.size)
        have c0 := (HCE.out w4 bw4).1
        have hco := HCO.out w4 bw4
        have HBW4 := Lib.hid bw4; clear bw4 hb4
        have hlx := HLX.out
        go_wp2
        go_ret2
        refine ⟨?_, HBW4.out⟩
        rw [HCC.out, show ((ck + max cA cB : Nat) : Int) = (ck : Int) + max (cA : Int) (cB : Int) by omega]
        rfl
end Go.Proofs.YtkccmpikeekceaaGreat
end
/- top: the program's Check of a tree of questions. -/
section
namespace Go.Proofs.YtkccmpikeekceaaGreat
open Go.RowKit Go.Own Go.Theory Go.BigFrame Go.Shelf Go.Top
set_option maxRecDepth 100000 in
set_option maxHeartbeats 1600000 in
theorem qcheck_any (ws cs : List Nat) (sa sb : Option Addr) (ca cb : Nat) (hp : Proper ws cs) (t : Tr) (c b : Nat) (hf : folT ws cs t (List.range ws.length) = some c) (w : World) (h1 : Sl w 1 (.slice sa ws.length ca) ws.length (nvs ws)) (h2 : Sl w 1 (.slice sb cs.length cb) cs.length (nvs cs)) (hT : TrAt tT w (.pointer (some ⟨b, 0, none⟩)) t) :
    Calls Tryz.prog 12 #[.slice sa ws.length ca, .slice sb cs.length cb, .pointer (some ⟨b, 0, none⟩)] w fun e w' => e = .returned (.tuple #[.int .i64 (c : Int), .int .i64 0]) ∧ Below w.heap.size w w' := by
  have hpr := proper_ok ws cs sa sb ca cb hp w h1 h2
  have hfo := fun sl cl w => follow_any ws cs sa sb ca cb (fun z hz => hp.small z hz) hp.ask hp.cost t (List.range ws.length) c sl cl b w hf (fun i hi => List.mem_range.1 hi) (by rw [List.length_range]; exact hp.most)
  simp only [List.length_range] at hfo
  have hm := hp.most
  have HFO := Lib.hid hfo; clear hfo hp
  have H1 := Lib.hid h1; clear h1
  have H2 := Lib.hid h2; clear h2
  have HT := Lib.hid hT; clear hT hf
  go_enter Tryz.func12, Tryz.ntmps12
  go_wp2_with (fail)
  refine hpr.mono ?_
  clear hpr
  rintro e w1 ⟨rfl, hb1⟩
  have HB1 := Lib.hid hb1; clear hb1
  go_wp2
  go_loopw [9, 21] (fun v c wr => ∃ i : Nat, i ≤ ws.length ∧ c = .int .i64 i ∧ wr.ownsRow w1.heap.size 3 1 v i (nvs (List.range i)) ∧ Below w1.heap.size w1 wr) (fun _ c _ => ws.length - (vInt c).toNat)
  case atStart => exact ⟨0, by omega, rfl, World.ownsRow_nil _ _ _ _, Below.refl _ _⟩
  case round =>
    obtain ⟨i, hi, rfl, how, hbr⟩ := hrel
    by_cases hil : i < ws.length
    · have hil' : (i : Int) < ws.length := by omega
      have hbsz := hbr.size
      have HOW := how.alloc (.cells #[.int .i64 i] 3)
      go_wp2_with (refine wpList_append_sl rfl _ _ 22 rfl w1.heap.size 3 (.int .i64 0) 1 8 hTintT infoIntT rfl (by decide) _ i _ rfl HOW _ 1 [.int .i64 i] rfl (sl_new _ _ _ 1 rfl (by decide)) (by intro u hu; simp at hu; rw [hu]; rfl) (by unfold maxLen; omega) (by omega) (by simp; omega) ?_)
      intro v' w' h3 h4
      have hb9 : Below w1.heap.size w1 w' := grown_below (hbr.trans ((alloc_below _ _).mono hbsz)) HOW h4 (by simp; omega)
      go_wp2
      go_roundw
      case rel =>
        refine ⟨i + 1, by omega, by go_num, ?_, hb9⟩
        simp only [nvs, List.range_succ, List.map_append]; exact h3
      case measure => simp [vInt]; omega
    · obtain rfl : i = ws.length := by omega
      obtain ⟨sl, cl, rfl, _⟩ := own_slice how
      have hS := Sl.of_owns how
      have hbw := HB1.out.trans (hbr.mono HB1.out.size)
      have hc := HFO.out sl cl wr (H1.out.below hbw) (H2.out.below hbw) hS (HT.out.below hbw)
      have HBW := Lib.hid hbw; clear hbw hS how hbr
      go_wp2_with (fail)
      refine hc.mono ?_
      clear hc
      rintro e w3 ⟨rfl, hb3⟩
      have hbw := HBW.out.trans (hb3.mono HBW.out.size)
      go_wp2
      go_ret2
      exact ⟨rfl, hbw⟩
end Go.Proofs.YtkccmpikeekceaaGreat
end
/- top: the other tree of the law: the reference's Other. -/
section
namespace Go.Own
open Go.RowKit
theorem own_one {w : World} {g base n size : Nat} {l : List Value} {t : TypeId} (h : Blk w g l t) (hb : base ≤ g) (hl : l.length = n * size) (hm : n ≤ maxLen) : w.ownsRow base t size (.slice (some ⟨g, 0, none⟩) n n) n l :=
  ⟨hl, .inr ⟨g, n, l.toArray, rfl, hb, h, Nat.le_refl _, hm, by simp [hl], by rw [← hl]; exact List.take_length⟩⟩
end Go.Own
namespace Go.Top
theorem fol_code {ws cs : List Nat} : ∀ {t : Tr} {l : List Nat} {c : Nat}, folT ws cs t l = some c → (codeT t).length + 1 = 2 * l.length
  | .leaf i, l, c, h => by obtain ⟨rfl, _⟩ := fol_leaf h; rfl
  | .node k a b, l, c, h => by
    obtain ⟨_, _, x, y, h1, h2, _⟩ := fol_node h
    have e1 := fol_code h1
    have e2 := fol_code h2
    have := split_len ws k l
    simp only [codeT, List.length_cons, List.length_append]
    omega
theorem fol_small {ws cs : List Nat} (hq : cs.length ≤ 8) : ∀ {t : Tr} {l : List Nat} {c : Nat}, folT ws cs t l = some c → (∀ i ∈ l, i < 8) → t.small
  | .leaf i, l, c, h, hl => by obtain ⟨rfl, _⟩ := fol_leaf h; exact hl i (by simp)
  | .node k a b, l, c, h, hl => by
    obtain ⟨_, hk, x, y, h1, h2, _⟩ := fol_node h
    exact ⟨by omega, fol_small hq h1 (fun i hi => hl i (List.mem_filter.1 hi).1), fol_small hq h2 (fun i hi => hl i (List.mem_filter.1 hi).1)⟩
abbrev cvT (t : Tr) : List Value := (codeT t).map (.int .i64)
theorem one_cv (t : Tr) : ∀ u ∈ cvT t, u.oneCell' = true := by
  intro u hu
  obtain ⟨x, _, rfl⟩ := List.mem_map.1 hu
  rfl
theorem other_one {ws cs : List Nat} {fst : Nat → Nat} {f i a : Nat} {t : Tr} (h : otherT ws cs fst (f + 1) [i] a = some t) : t = .leaf i := by
  unfold otherT at h; injection h with h; exact h.symm
theorem other_more {ws cs : List Nat} {fst : Nat → Nat} {f a : Nat} {l : List Nat} {t : Tr} (hl : 1 < l.length) (h : otherT ws cs fst (f + 1) l a = some t) :
    ∃ k x y, firstQ ws cs.length l (fst a) cs.length 0 = some k ∧ otherT ws cs fst f (noL ws k l) (a + 1) = some x ∧ otherT ws cs fst f (yesL ws k l) (a + 2) = some y ∧ t = .node k x y := by
  match l, hl with
  | i :: j :: m, _ =>
    unfold otherT at h
    simp only at h
    split at h
    · cases h
    · rename_i k hk
      split at h
      · rename_i x y h1 h2
        injection h with h
        exact ⟨k, x, y, hk, h1, h2, h.symm⟩
      · cases h
end Go.Top
namespace Go.Proofs.YtkccmpikeekceaaGreat
open Go.RowKit Go.Own Go.Theory Go.BigFrame Go.Shelf Go.Top
/-- What Other answers. -/
structure OtQ (w : World) (t : Tr) (e : Ending) (w' : World) : Prop where
  out : ∃ v, e = .returned v ∧ w'.ownsRow w.heap.size 3 1 v (codeT t).length (cvT t)
  below : Below w.heap.size w w'
set_option maxRecDepth 100000 in
set_option maxHeartbeats 3200000 in
theorem other_any (ws cs : List Nat) (m : List Int) (sa sb sm : Option Addr) (ca cb cm : Nat) (hws : ∀ z ∈ ws, z < 256) (hw8 : ws.length ≤ 8) (hcs : cs.length ≤ 8) (hr : ∀ z ∈ m, rg z) (hm : m.length ≤ maxLen) :
    ∀ (f : Nat) (l : List Nat) (a c : Nat) (t : Tr) (sl : Option Addr) (cl : Nat) (w : World), otherT ws cs (fun a => (at3 m (a : Int) cs.length).toNat) f l a = some t → folT ws cs t l = some c → (∀ i ∈ l, i < ws.length) → l.length ≤ 8 → a + 2 * f ≤ 100 → (l.length ≤ 1 ∨ 1 ≤ cs.length) →
    Sl w 1 (.slice sa ws.length ca) ws.length (nvs ws) → Sl w 1 (.slice sm m.length cm) m.length (m.map (.int .i64)) → Sl w 1 (.slice sl l.length cl) l.length (nvs l) →
    Calls Tryz.prog 10 #[.slice sa ws.length ca, .slice sb cs.length cb, .slice sl l.length cl, .slice sm m.length cm, .int .i64 (a : Int)] w fun e w' => OtQ w t e w' := by
  intro f
  induction f with
  | zero => intro l a c t sl cl w h; cases h
  | succ f ih =>
    intro l a c t sl cl w ho hf hl hl8 ha hq h1 h2 h3
    have hlc := fol_code hf
    have hpos : 1 ≤ l.length := by omega
    by_cases hone : l.length = 1
    · obtain ⟨i, rfl⟩ := List.length_eq_one_iff.1 hone
      obtain rfl := other_one ho
      simp only [List.length_cons, List.length_nil, Nat.zero_add] at h3 ⊢
      have hi := hl i (by simp)
      have hi8 : (i : Int) < 8 := by omega
      obtain ⟨g, o, rfl, _, _, hC, hg⟩ := sl_at h3 (by omega)
      have cx : w.cell? ⟨g, o, none⟩ = some (.int .i64 (i : Int)) := hC 0 _ rfl
      have hfin : OtQ w (.leaf i) (.returned (.slice (some ⟨w.heap.size, 0, none⟩) 1 1)) (w.alloc (.cells #[.int .i64 (-1 - (i : Int))] 3)) := ⟨⟨_, rfl, own_one (n := 1) (size := 1) (Blk.new w #[.int .i64 (-1 - (i : Int))] 3) (Nat.le_refl _) rfl (by decide)⟩, alloc_below _ _⟩
      have HF := Lib.hid hfin; clear hfin hC h1 h2 h3 hf ho ih hone hlc hl
      clear hws
      go_enter Tryz.func10, Tryz.ntmps10
      go_wp2
      go_ret
      exact HF.out
    · have hl1 : 1 < l.length := by omega
      obtain ⟨k, x, y, hfq, hox, hoy, rfl⟩ := other_more hl1 ho
      obtain ⟨_, hk, cX, cY, fx, fy, _⟩ := fol_node hf
      have hqn : 1 ≤ cs.length := by omega
      have lx := fol_code fx
      have ly := fol_code fy
      have hsp := split_len ws k l
      have hcode : (codeT (.node k x y)).length = 1 + (codeT x).length + (codeT y).length := by simp only [codeT, List.length_cons, List.length_append]; omega
      have e1 : ((l.length : Int) == 1) = false := beq_eq_false_iff_ne.2 (by omega)
      have e2 : ((l.length : Int) = 1) = False := eq_false (by omega)
      obtain ⟨fi, hfi, hfi8⟩ := at3_rg m (a : Int) (n := cs.length) (by omega)
      have hat := fun W h => at_any m (a : Int) cs.length sm cm (by unfold rg; omega) (by omega) hr W h hm
      rw [hfi] at hat
      have hfst : firstQ ws cs.length l fi cs.length 0 = some k := by
        have h := hfq
        simp only [hfi, Int.toNat_natCast] at h
        exact h
      have hAl : ∀ i ∈ noL ws k l, i < ws.length := fun i hi => hl i (List.mem_filter.1 hi).1
      have hBl : ∀ i ∈ yesL ws k l, i < ws.length := fun i hi => hl i (List.mem_filter.1 hi).1
      have hihx := fun sl cl w => ih (noL ws k l) (a + 1) cX x sl cl w hox fx hAl (by omega) (by omega) (.inr hqn)
      have hihy := fun sl cl w => ih (yesL ws k l) (a + 2) cY y sl cl w hoy fy hBl (by omega) (by omega) (.inr hqn)
      have hsides := fun (j : Nat) (hj : j < 8) W h1 h2 => sides_any ws l j sa sl ca cl (by omega) (fun z hz => Nat.lt_trans (hws z hz) (by decide)) hl (by omega) W h1 h2
      have hm' : (m.length : Int) ≤ 9223372036854775807 := by unfold maxLen at hm; omega
      have LX : (codeT x).length ≤ 15 ∧ (codeT y).length ≤ 15 := by omega
      clear ih hox hoy hfq hfi hf ho fx fy lx ly hlc hpos hone
      have HX := Lib.hid hihx; clear hihx
      have HY := Lib.hid hihy; clear hihy
      have HSD := Lib.hid hsides; clear hsides
      have H1 := Lib.hid h1; clear h1
      have H2 := Lib.hid h2; clear h2
      have H3 := Lib.hid h3; clear h3
      have HFS := Lib.hid hfst; clear hfst
      have HCO := Lib.hid hcode; clear hcode
      have HSP := Lib.hid hsp; clear hsp
      have HLX := Lib.hid LX; clear LX
      have HAL := Lib.hid hl; clear hl hws hAl hBl hr
      have hq1 : 1 ≤ (cs.length : Int) := by omega
      have hfi' : (fi : Int) < cs.length := by omega
      go_enter Tryz.func10, Tryz.ntmps10
      go_wp2_with (fail)
      refine (hat w H2.out).mono ?_
      clear hat
      rintro e w2 ⟨rfl, rfl⟩
      go_wp2
      go_loopw [12] (fun c wr => ∃ i : Nat, i ≤ cs.length ∧ c = .int .i64 i ∧ firstQ ws cs.length l fi (cs.length - i) i = some k ∧ Below w2.heap.size w2 wr) (fun c _ => cs.length - (vInt c).toNat)
      case atStart => exact ⟨0, by omega, rfl, HFS.out, Below.refl _ _⟩
      case round =>
        obtain ⟨i, hi, rfl, hfq, hbr⟩ := hrel
        have hil : i < cs.length := by
          rcases Nat.lt_or_ge i cs.length with h | h
          · exact h
          · rw [show cs.length - i = 0 by omega] at hfq; cases hfq
        have hil' : (i : Int) < cs.length := by omega
        rw [show cs.length - i = (cs.length - (i + 1)) + 1 by omega, firstQ] at hfq
        obtain ⟨j, hj⟩ : ∃ j, j = (fi + i) % cs.length := ⟨_, rfl⟩
        have hjl : j < cs.length := by rw [hj]; exact Nat.mod_lt _ (by omega)
        have hrem : ((fi : Int) + (i : Int)).tmod (cs.length : Int) = (j : Int) := by rw [hj]; rfl
        rw [← hj] at hfq
        have hsd := HSD.out j (by omega) wr (H1.out.below hbr) (H3.out.below hbr)
        have HFQ := Lib.hid hfq; clear hfq hj
        have HBR := Lib.hid hbr; clear hbr
        have hrem2 : ((cs.length : Int) = 0) = False := eq_false (by omega)
        have hrem3 : ((cs.length : Int) == 0) = false := beq_eq_false_iff_ne.2 (by omega)
        go_wp2_with (fail)
        refine hsd.mono ?_
        clear hsd
        rintro e w3 ⟨v1, v2, rfl, hT⟩
        have hbr3 : Below w2.heap.size w2 w3 := HBR.out.trans (hT.below.mono HBR.out.size)
        obtain ⟨s1, c1, rfl, _⟩ := own_slice hT.a
        obtain ⟨s2, c2, rfl, _⟩ := own_slice hT.b
        have S1 := Lib.hid (Sl.of_owns hT.a)
        have S2 := Lib.hid (Sl.of_owns hT.b)
        have LT2 := Lib.hid (fun b hb => own_lt hT.b (b := b) hb)
        clear hT HBR hrem hrem2 hrem3
        by_cases hne : noL ws j l ≠ [] ∧ yesL ws j l ≠ []
        · have hfq := HFQ.out
          rw [if_pos hne] at hfq
          injection hfq with hjk
          subst hjk
          have p1 : (0 < ((noL ws j l).length : Int)) = True := eq_true (by have := List.length_pos_iff.2 hne.1; omega)
          have p2 : (0 < ((yesL ws j l).length : Int)) = True := eq_true (by have := List.length_pos_iff.2 hne.2; omega)
          have p3 : 0 < (noL ws j l).length := List.length_pos_iff.2 hne.1
          have p4 : 0 < (yesL ws j l).length := List.length_pos_iff.2 hne.2
          clear hne HFQ
          have hlx := HLX.out
          obtain ⟨W4, hW4⟩ : ∃ W4, W4 = w3.alloc (.cells #[.int .i64 (j : Int)] 3) := ⟨_, rfl⟩
          have b34 : Below w3.heap.size w3 W4 := by rw [hW4]; exact alloc_below _ _
          have bw4 : Below w2.heap.size w2 W4 := hbr3.trans (b34.mono hbr3.size)
          have k4 : Blk W4 w3.heap.size [.int .i64 (j : Int)] 3 := by rw [hW4]; exact Blk.new w3 #[.int .i64 (j : Int)] 3
          have own4 : W4.ownsRow w2.heap.size 3 1 (.slice (some ⟨w3.heap.size, 0, none⟩) 1 1) 1 [.int .i64 (j : Int)] := own_one (n := 1) (size := 1) k4 hbr3.size rfl (by decide)
          have hx := HX.out s1 c1 W4 (H1.out.below bw4) (H2.out.below bw4) (S1.out.below b34)
          rw [show ((a + 1 : Nat) : Int) = (a : Int) + 1 by omega] at hx
          have OWN4 := Lib.hid own4; clear own4 k4
          have BW4 := Lib.hid bw4; clear bw4 hbr3
          have B34 := Lib.hid b34; clear b34
          have HX' := Lib.hid hx; clear hx
          have HW4 := Lib.hid hW4; clear hW4
          go_wp2_with (fail)
          rw [← HW4.out]
          refine HX'.out.mono ?_
          rintro e w5 ⟨⟨v5, rfl, how5⟩, hb5⟩
          have bw5 : Below w2.heap.size w2 w5 := BW4.out.trans (hb5.mono BW4.out.size)
          have own5 := own_below OWN4.out hb5
          obtain ⟨s5, c5, rfl, _⟩ := own_slice how5
          have S5 := Lib.hid (Sl.of_owns how5)
          have S2x := Lib.hid ((S2.out.below B34.out).below hb5); clear how5 hb5
          have OWN5 := Lib.hid own5; clear own5
          have BW5 := Lib.hid bw5; clear bw5
          have hl15 := hlx.1
          have hl16 := hlx.2
          go_wp2_with (refine wpList_append_sl rfl _ _ 22 rfl w2.heap.size 3 (.int .i64 0) 1 8 hTintT infoIntT rfl (by decide) _ 1 _ rfl OWN5.out _ (codeT x).length (cvT x) rfl S5.out (one_cv x) (by unfold maxLen; omega) (by omega) BW5.out.size ?_)
          intro v6 w6 h6 g6
          have bw6 := grown_below BW5.out OWN5.out g6 BW5.out.size
          obtain ⟨s6, c6, rfl, _⟩ := own_slice h6
          have S26 := S2x.out.grown g6 (fun b hb e => by
            have h9 := LT2.out b hb
            simp only [Value.ownBlock] at e
            injection e with e; omega)
          have hy := HY.out s2 c2 w6 (H1.out.below bw6) (H2.out.below bw6) S26
          rw [show ((a + 2 : Nat) : Int) = (a : Int) + 2 by omega] at hy
          have HY' := Lib.hid hy; clear hy S26 g6
          have BW6 := Lib.hid bw6; clear bw6
          have OWN6 := Lib.hid h6; clear h6
          go_wp2_with (fail)
          refine HY'.out.mono ?_
          rintro e w7 ⟨⟨v7, rfl, how7⟩, hb7⟩
          have BW7 := Lib.hid (BW6.out.trans (hb7.mono BW6.out.size))
          have OWN7 := Lib.hid (own_below OWN6.out hb7); clear hb7
          obtain ⟨s7, c7, rfl, _⟩ := own_slice how7
          have S7 := Lib.hid (Sl.of_owns how7); clear how7
          go_wp2_with (refine wpList_append_sl rfl _ _ 22 rfl w2.heap.size 3 (.int .i64 0) 1 8 hTintT infoIntT rfl (by decide) _ (1 + (codeT x).length) _ rfl OWN7.out _ (codeT y).length (cvT y) rfl S7.out (one_cv y) (by unfold maxLen; omega) (by omega) BW7.out.size ?_)
          intro v8 w8 h8 g8
          have bw8 := grown_below BW7.out OWN7.out g8 BW7.out.size
          have hcv : cvT (.node j x y) = [.int .i64 (j : Int)] ++ cvT x ++ cvT y := by simp [cvT, codeT]
          have hfin : OtQ w2 (.node j x y) (.returned v8) w8 := ⟨⟨v8, rfl, by rw [HCO.out, hcv]; exact h8⟩, bw8⟩
          have HFIN := Lib.hid hfin; clear hfin hcv h8 g8 bw8
          go_wp2
          go_ret
          exact HFIN.out
        · have hfq := HFQ.out
          rw [if_neg hne] at hfq
          by_cases q1 : (noL ws j l).length = 0
          · have p1 : (0 < ((noL ws j l).length : Int)) = False := eq_false (by omega)
            have p2 : ¬ 0 < (noL ws j l).length := by omega
            have HFQ2 := Lib.hid hfq; clear hfq hne q1
            go_wp2
            go_roundw
            case rel => exact ⟨i + 1, by omega, by go_num, HFQ2.out, hbr3⟩
            case measure => simp [vInt]; omega
          · have q2 : (yesL ws j l).length = 0 := by
              rcases Nat.eq_zero_or_pos (yesL ws j l).length with h | h
              · exact h
              · exact absurd ⟨List.length_pos_iff.1 (by omega), List.length_pos_iff.1 h⟩ hne
            have p1 : (0 < ((noL ws j l).length : Int)) = True := eq_true (by omega)
            have p2 : 0 < (noL ws j l).length := by omega
            have p3 : (0 < ((yesL ws j l).length : Int)) = False := eq_false (by omega)
            have p4 : ¬ 0 < (yesL ws j l).length := by omega
            have HFQ2 := Lib.hid hfq; clear hfq hne q1 q2
            go_wp2
            go_roundw
            case rel => exact ⟨i + 1, by omega, by go_num, HFQ2.out, hbr3⟩
            case measure => simp [vInt]; omega
end Go.Proofs.YtkccmpikeekceaaGreat
end
/- A region that draws its order, its operations told in another order of the text. -/
section
namespace Go.Own.SqP
open Go.RowKit Go.Own
section
variable {P : Program} {l : List Oper} {ps : List Nat} {Ext : World → World → Prop} {w0 : World} {Post : Nat → Value → World → Prop}
/-- A region that draws its order: the head, n operations, is walked in the order of the text, each operation in some world that grew out of the first one; then the tail. -/
theorem any_sq {Q : Exit → Act → World → Prop} {a : Act} {w : World} (n : Nat) (ps : List Nat) (Ext : World → World → Prop) (Post : Nat → Value → World → Prop) (hB : sqB l n a.tmps.size ps = true)
    (hrefl : ∀ w, Ext w w) (htrans : ∀ a b c, Ext a b → Ext b c → Ext a c) (stable : ∀ i v w w', Post i v w → Ext w w' → Post i v w')
    (h : SqW P l ps Ext w.drew Post (fun a' => ∀ w', Ext w.drew w' → (∀ j d, j < n → ps.contains j = true → (l[j]?).bind (·.dst) = some d → (∀ o', l[j]? = some o' → Region.wanted o' (yielded l.toArray a'.tmps) = true) → Post j (a'.tmps.getD d undef) w') →
      wpList P l.toArray Q (l.drop n) a' w') 0 (l.take n) a) : wpAny P .any l.toArray Q l.toArray.size (Array.replicate l.toArray.size false) a w.drew := by
  simp only [sqB, Bool.and_eq_true, Bool.or_eq_true, decide_eq_true_eq, beq_iff_eq] at hB
  obtain ⟨⟨⟨⟨⟨hsel, he⟩, hd⟩, hl⟩, _⟩, hq⟩ := hB
  have F := sqF_of hsel he hd hl
  have hn : n ≤ l.length := by rcases hq with h | h <;> omega
  have hq' : n = l.length ∨ (Region.sinkB .any l.toArray n = true ∧ Region.chainB .any l.toArray n = true ∧ n < l.length) := hq.imp (fun h => h) fun h => ⟨h.1.1.1, h.1.1.2, h.1.2⟩
  have hseq : Region.seqB .any l.toArray (l.length - n) n ((List.replicate n true ++ List.replicate (l.length - n) false).toArray) = true := by
    rcases hq with h | h
    · subst h
      rw [Nat.sub_self]
      simp only [Region.seqB, List.isEmpty_iff, List.replicate_zero, List.append_nil]
      unfold Region.ready
      rw [List.filter_eq_nil_iff]
      intro i hi
      have hi' : i < l.length := by simpa using hi
      simp [hi']
    · exact h.2
  have inv0 : HeadInv .any l.toArray n (Array.replicate l.toArray.size false) :=
    ⟨by simp, fun j oj _ hl => (by rw [getD_replicate_false] at hl; cases hl), fun t _ h' => getD_in (by simpa using h') (getD_replicate_false _ _)⟩
  have hno : ∀ j, ¬ (j < n ∧ (Array.replicate l.toArray.size false).getD j false = true) := fun j hj => by have := hj.2; rw [getD_replicate_false] at this; cases this
  have H := sq_any (Q := Q) (g := l.length - n) F hrefl htrans stable rfl h hn he hq' (fun listed a1 w1 val hsz h1 h2 I fr => ?_) n (Array.replicate l.toArray.size false) a w.drew (fun _ => undef) inv0
    ⟨hrefl _, fun j hj => absurd hj (hno j), fun m o hm => absurd hm (hno m), fun u _ j hj => absurd hj (hno j), fun u _ j hj => absurd hj (hno j)⟩
    ⟨rfl, rfl, fun _ _ => rfl, fun j o d hj => absurd hj (hno j)⟩ (by simp; omega)
  · rw [show n + (l.length - n) = l.toArray.size by simp; omega] at H
    exact H
  · have hlisted : listed = (List.replicate n true ++ List.replicate (l.length - n) false).toArray := by
      apply Array.ext
      · simp [hsz]; omega
      · intro i hi1 hi2
        by_cases hin : i < n
        · have := h1 i hin
          simp only [Array.getD_eq_getD_getElem?, Array.getElem?_eq_getElem hi1, Option.getD_some] at this
          rw [this]
          simp [hin]
        · have := h2 i (by omega) (by omega)
          simp only [Array.getD_eq_getD_getElem?, Array.getElem?_eq_getElem hi1, Option.getD_some] at this
          rw [this]
          simp [List.getElem_append, hin]
    have hfin := sqw_along hrefl (u := val) h hn n (Nat.le_refl _) fun j hj => I.cons val (fun _ _ => rfl) j hj
    have hnil : (l.take n).drop n = [] := List.drop_of_length_le (by simp; omega)
    rw [hnil] at hfin
    unfold SqW at hfin
    have ha1 : a1 = putAll l a val n := by
      have ht : a1.tmps = (putAll l a val n).tmps := by
        refine getD_ext (by rw [putAll_size, fr.size]) fun t ht => ?_
        by_cases hx : ∃ i o, i < n ∧ l[i]? = some o ∧ o.dst = some t
        · obtain ⟨i, o, hi, ho, hot⟩ := hx
          rw [slot_at F rfl val (Nat.le_refl _) hi ho hot, fr.slot i o t hi ho hot]
        · have hno : ∀ i o, i < n → l[i]? = some o → o.dst ≠ some t := fun i o hi ho hot => hx ⟨i, o, hi, ho, hot⟩
          rw [slot_other val hno]
          exact fr.other t hno
      have hdf : a1.defers = (putAll l a val n).defers := by rw [putAll_defers, fr.defers]
      cases a1
      cases hp : putAll l a val n
      rw [hp] at ht hdf
      simp only at ht hdf
      rw [ht, hdf]
    have hw := hfin w1 I.ext fun j d hj hp hdj hwj => by
      obtain ⟨oj, hoj, hdj'⟩ := Option.bind_eq_some_iff.1 hdj
      rw [slot_at F rfl val (Nat.le_refl _) hj hoj hdj']
      refine I.post val (fun _ _ => rfl) j hj hp fun o' ho' => ?_
      rw [← hwj o' ho']
      refine wanted_same (by rw [putAll_size, putAll_size]) ?_
      exact agree_walk F rfl (u := val) (u' := val) hj (Nat.le_refl _) (Nat.le_of_lt hj) (Nat.le_of_lt hj) (Nat.le_refl _) ho' fun _ _ => rfl
    rw [← ha1] at hw
    have := wpAny_of_seq (md := .any) (Q' := Q) (l.drop n) n listed a1 w1 (fun j => by simp [List.getElem?_drop]) (by rw [List.length_drop, hlisted]; exact hseq) hw
    rwa [List.length_drop] at this
end
/-- An operation told with other numbers for what it waits for. -/
def ren (iv : Nat → Nat) (o : Oper) : Oper := { o with after := o.after.map fun e => { e with on := iv e.on } }
def permL (l : List Oper) (s : List Nat) (iv : Nat → Nat) : List Oper := s.map fun j => ren iv (l.getD j default)
/-- s tells each operation once, iv turns it back; no operation is guarded; all wait for earlier ones. -/
def permB (l : List Oper) (s : List Nat) (iv : Nat → Nat) : Bool :=
  decide (s.length = l.length) && ((List.range l.length).all fun i => decide (s.getD i 0 < l.length) && decide (iv (s.getD i 0) = i) && decide (iv i < l.length) && decide (s.getD (iv i) 0 = i)) &&
  (l.all fun o => o.guard.isNone && o.after.all fun e => decide (e.on < l.length))
structure Perm (l : List Oper) (s : List Nat) (iv : Nat → Nat) : Prop where
  len : s.length = l.length
  lt : ∀ i, i < l.length → s.getD i 0 < l.length
  back : ∀ i, i < l.length → iv (s.getD i 0) = i
  ivlt : ∀ i, i < l.length → iv i < l.length
  forth : ∀ i, i < l.length → s.getD (iv i) 0 = i
  noguard : ∀ o ∈ l, o.guard = none
  on : ∀ o ∈ l, ∀ e ∈ o.after, e.on < l.length
theorem perm_of {l : List Oper} {s : List Nat} {iv : Nat → Nat} (h : permB l s iv = true) : Perm l s iv := by
  simp only [permB, Bool.and_eq_true, decide_eq_true_eq, List.all_eq_true, List.mem_range, Array.all_eq_true, Option.isNone_iff_eq_none] at h
  obtain ⟨⟨h1, h2⟩, h3⟩ := h
  refine ⟨h1, fun i hi => (h2 i hi).1.1.1, fun i hi => (h2 i hi).1.1.2, fun i hi => (h2 i hi).1.2, fun i hi => (h2 i hi).2, fun o ho => (h3 o ho).1, fun o ho e he => ?_⟩
  obtain ⟨k, hk, rfl⟩ := Array.getElem_of_mem he
  exact (h3 o ho).2 k hk
section
variable {P : Program} {l : List Oper} {s : List Nat} {iv : Nat → Nat}
theorem permL_len (h : Perm l s iv) : (permL l s iv).length = l.length := by unfold permL; rw [List.length_map, h.len]
theorem permL_at (h : Perm l s iv) {i : Nat} (hi : i < l.length) : (permL l s iv)[i]? = some (ren iv (l[s.getD i 0]'(h.lt i hi))) := by
  unfold permL
  have hs : i < s.length := by rw [h.len]; exact hi
  have hlt := h.lt i hi
  have e1 : s.getD i 0 = s[i] := by rw [List.getD_eq_getElem?_getD, List.getElem?_eq_getElem hs]; rfl
  rw [List.getElem?_map, List.getElem?_eq_getElem hs, Option.map_some]
  congr 2
  rw [List.getD_eq_getElem?_getD, List.getElem?_eq_getElem (by rw [← e1]; exact hlt), Option.getD_some]
  congr 1
  exact e1.symm
/-- Which operations are listed, in both tellings. -/
structure Same (l : List Oper) (s : List Nat) (A B : Array Bool) : Prop where
  sa : A.size = l.length
  sb : B.size = l.length
  eq : ∀ i, i < l.length → B.getD i false = A.getD (s.getD i 0) false
theorem getD_tf {A : Array Bool} {i : Nat} (h : i < A.size) : A.getD i true = A.getD i false := by
  rw [Array.getD_eq_getD_getElem?, Array.getD_eq_getD_getElem?, Array.getElem?_eq_getElem h]; rfl
theorem ready_iff (hp : Perm l s iv) {A B : Array Bool} (h : Same l s A B) (j : Nat) : j ∈ Region.ready .any l.toArray A ↔ (j < l.length ∧ iv j ∈ Region.ready .any (permL l s iv).toArray B) := by
  unfold Region.ready
  simp only [List.mem_filter, List.mem_range, List.size_toArray, permL_len hp]
  constructor
  · rintro ⟨hj, h1⟩
    refine ⟨hj, hp.ivlt j hj, ?_⟩
    have e : (permL l s iv)[iv j]? = some (ren iv l[j]) := by
      rw [permL_at hp (hp.ivlt j hj)]
      congr 2
      congr 1
      exact hp.forth j hj
    simp only [List.getElem?_toArray, e, List.getElem?_eq_getElem hj, Option.map_some, Option.getD_some, Bool.and_eq_true, Bool.not_eq_true', Array.all_eq_true] at h1 ⊢
    refine ⟨?_, ?_⟩
    · have := h.eq (iv j) (hp.ivlt j hj)
      rw [hp.forth j hj] at this
      rw [getD_tf (by rw [h.sb]; exact hp.ivlt j hj), this, ← getD_tf (by rw [h.sa]; exact hj)]
      exact h1.1
    · intro k hk
      have hk' : k < l[j].after.size := by simpa [ren] using hk
      have h2 := h1.2 k hk'
      have hon := hp.on _ (List.getElem_mem hj) _ (Array.getElem_mem hk')
      have := h.eq (iv l[j].after[k].on) (hp.ivlt _ hon)
      rw [hp.forth _ hon] at this
      simp only [ren, Array.getElem_map]
      rw [this]
      exact h2
  · rintro ⟨hj, _, h1⟩
    refine ⟨hj, ?_⟩
    have e : (permL l s iv)[iv j]? = some (ren iv l[j]) := by
      rw [permL_at hp (hp.ivlt j hj)]
      congr 2
      congr 1
      exact hp.forth j hj
    simp only [List.getElem?_toArray, e, List.getElem?_eq_getElem hj, Option.map_some, Option.getD_some, Bool.and_eq_true, Bool.not_eq_true', Array.all_eq_true] at h1 ⊢
    refine ⟨?_, ?_⟩
    · have := h.eq (iv j) (hp.ivlt j hj)
      rw [hp.forth j hj] at this
      rw [getD_tf (by rw [h.sa]; exact hj), ← this, ← getD_tf (by rw [h.sb]; exact hp.ivlt j hj)]
      exact h1.1
    · intro k hk
      have h2 := h1.2 k (by simpa [ren] using hk)
      have hon := hp.on _ (List.getElem_mem hj) _ (Array.getElem_mem hk)
      have := h.eq (iv l[j].after[k].on) (hp.ivlt _ hon)
      rw [hp.forth _ hon] at this
      simp only [ren, Array.getElem_map] at h2
      rw [this] at h2
      exact h2
theorem ren_wp (o : Oper) (a : Act) (w : World) (K : Act → World → Prop) (Q : Exit → Act → World → Prop) : (ren iv o).wp P a w K Q = o.wp P a w K Q := rfl
theorem perm_any (hp : Perm l s iv) {Q : Exit → Act → World → Prop} : ∀ (f : Nat) (A B : Array Bool) (a : Act) (w : World), Same l s A B → wpAny P .any (permL l s iv).toArray Q f B a w → wpAny P .any l.toArray Q f A a w
  | 0, A, B, a, w, h, hw => by
    refine ⟨?_, hw.2⟩
    rw [List.eq_nil_iff_forall_not_mem]
    intro j hj
    have := ((ready_iff hp h j).1 hj).2
    rw [hw.1] at this
    cases this
  | f + 1, A, B, a, w, h, hw => by
    refine ⟨fun he => hw.1 ?_, fun j hj => ?_⟩
    · rw [List.eq_nil_iff_forall_not_mem]
      intro i hi
      have hil : i < l.length := by
        have := hi
        unfold Region.ready at this
        simp only [List.mem_filter, List.mem_range, List.size_toArray, permL_len hp] at this
        exact this.1
      have : s.getD i 0 ∈ Region.ready .any l.toArray A := (ready_iff hp h _).2 ⟨hp.lt i hil, by rw [hp.back i hil]; exact hi⟩
      rw [he] at this
      cases this
    · obtain ⟨hjl, hi⟩ := (ready_iff hp h j).1 hj
      have h2 := hw.2 _ hi
      have e : (permL l s iv)[iv j]? = some (ren iv l[j]) := by
        rw [permL_at hp (hp.ivlt j hjl)]
        congr 2
        congr 1
        exact hp.forth j hjl
      have hg := hp.noguard _ (List.getElem_mem hjl)
      unfold wpOp at h2 ⊢
      simp only [List.getElem?_toArray, e, List.getElem?_eq_getElem hjl] at h2 ⊢
      have w1 : ∀ y, Region.wanted (ren iv l[j]) y = true := fun y => by unfold Region.wanted ren; simp only [hg]
      have w2 : ∀ y, Region.wanted l[j] y = true := fun y => by unfold Region.wanted; simp only [hg]
      rw [if_pos (w1 _)] at h2
      rw [if_pos (w2 _)]
      have hs : Same l s (A.setIfInBounds j true) (B.setIfInBounds (iv j) true) := by
        refine ⟨by simpa using h.sa, by simpa using h.sb, fun i hil => ?_⟩
        by_cases hij : i = iv j
        · subst hij
          rw [hp.forth j hjl]
          simp [Array.getD_eq_getD_getElem?, h.sa, h.sb, hjl, hil]
        · have hne : s.getD i 0 ≠ j := fun he => hij (by rw [← he, hp.back i hil])
          have := h.eq i hil
          rw [Array.getD_eq_getD_getElem?, Array.getD_eq_getD_getElem?] at this ⊢
          rw [Array.getElem?_setIfInBounds_ne (fun he => hij he.symm), Array.getElem?_setIfInBounds_ne (fun he => hne he.symm)]
          exact this
      rcases h2 with h2 | h2
      · rw [ren_wp] at h2
        exact .inl (Oper.wp_mono (fun a' w' hk => perm_any hp f _ _ a' w' hs hk) h2)
      · exact .inr h2
/-- A region that draws its order, told in another order: s lists the operations, iv turns s back. -/
theorem wp_region_sqP {id : Nat} {Q : Exit → Act → World → Prop} {a : Act} {w : World} (s : List Nat) (iv : Nat → Nat) (l' : List Oper) (hl' : permL l s iv = l') (n : Nat) (ps : List Nat) (Ext : World → World → Prop) (Post : Nat → Value → World → Prop) (hm : P.follows .mixedOrders = true)
    (hp : permB l s iv = true) (hB : sqB l' n a.tmps.size ps = true) (hrefl : ∀ w, Ext w w) (htrans : ∀ a b c, Ext a b → Ext b c → Ext a c) (stable : ∀ i v w w', Post i v w → Ext w w' → Post i v w')
    (h : SqW P l' ps Ext w.drew Post (fun a' => ∀ w', Ext w.drew w' → (∀ j d, j < n → ps.contains j = true → (l'[j]?).bind (·.dst) = some d → (∀ o', l'[j]? = some o' → Region.wanted o' (yielded l'.toArray a'.tmps) = true) → Post j (a'.tmps.getD d undef) w') →
      wpList P l'.toArray Q (l'.drop n) a' w') 0 (l'.take n) a) : (Code.region id l.toArray true).wp P Q a w := by
  have hP := perm_of hp
  refine wp_region_any hm ?_
  have h1 := any_sq n ps Ext Post hB hrefl htrans stable h
  subst hl'
  have hlen : (permL l s iv).toArray.size = l.toArray.size := by simp [permL_len hP]
  rw [hlen] at h1
  refine perm_any hP _ _ _ _ _ ⟨by simp, by simp, fun i hi => ?_⟩ h1
  rw [getD_replicate_false, getD_replicate_false]
end
end Go.Own.SqP
end
