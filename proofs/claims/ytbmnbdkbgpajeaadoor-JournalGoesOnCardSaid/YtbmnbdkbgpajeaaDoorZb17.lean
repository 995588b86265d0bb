/- journal: the record that begins with some sectors. -/
import Derived.Test.YtbmnbdkbgpajeaaDoorZb16
import Derived.Shelf.SlIterI.Nil
import Derived.Shelf.SortM.Plain
import Derived.Shelf.SortM.SortNone
import Derived.Shelf.SlicesE.Clone
import Derived.Shelf.Slices.Turned
import Derived.Shelf.Strings.Repeat
import Derived.Ground.GgzProg
import Derived.Ground.SlgmProg
import Derived.Ground.SlgnProg
import Derived.Test.YtbmnbdkbgpajeaaDoorProg
import Derived.Test.YtbmnbdkbgpajeaaDoorZb08
/- journal: the record that begins with some sectors. -/
section
namespace Go.Jn
open Go.RowKit Go.Own
def prts (l : List Prt) : List Value := l.flatMap Go.Proofs.YtbmnbdkbgpajeaaDoor.prtC
theorem prts_len (l : List Prt) : (prts l).length = l.length * 5 := by
  induction l with
  | nil => rfl
  | cons x l ih => unfold prts at ih ⊢; rw [List.flatMap_cons, List.length_append, ih, List.length_cons]; simp [Go.Proofs.YtbmnbdkbgpajeaaDoor.prtC]; omega
theorem prts_drop (l : List Prt) : ∀ k, (prts l).drop (k * 5) = prts (l.drop k) := by
  induction l with
  | nil => intro k; simp [prts]
  | cons x l ih =>
    intro k
    cases k with
    | zero => simp
    | succ k =>
      have e : prts (x :: l) = Go.Proofs.YtbmnbdkbgpajeaaDoor.prtC x ++ prts l := rfl
      rw [e, show (k + 1) * 5 = (Go.Proofs.YtbmnbdkbgpajeaaDoor.prtC x).length + k * 5 by simp [Go.Proofs.YtbmnbdkbgpajeaaDoor.prtC]; omega, List.drop_length_add_append, ih k]
      rfl
theorem prts_cons (x : Prt) (l : List Prt) : prts (x :: l) = Go.Proofs.YtbmnbdkbgpajeaaDoor.prtC x ++ prts l := rfl
theorem prts_cells {w : World} {b off : Nat} {l : List Prt} (h : Cells w b off (prts l)) {k : Nat} (hk : k < l.length) : Cells w b (off + k * 5) (Go.Proofs.YtbmnbdkbgpajeaaDoor.prtC l[k]) := by
  have h2 := h.sub (k * 5) 5
  rw [prts_drop, List.drop_eq_getElem_cons hk, prts_cons, List.take_append_of_le_length (by simp [Go.Proofs.YtbmnbdkbgpajeaaDoor.prtC]), List.take_of_length_le (by simp [Go.Proofs.YtbmnbdkbgpajeaaDoor.prtC])] at h2
  exact h2
/-- is the k-th sector a part of the record that begins with f -/
def fits (f p : Prt) (k : Nat) : Bool := p.ok && decide (p.n = f.n) && decide (p.k = k) && decide (p.l + 48 * k = f.l)
def recV (l : List Prt) : List UInt8 × Nat × Bool := match recAt l with | none => ([], 0, false) | some (t, n) => (t, n, true)
theorem recV_eq {f : Prt} {r : List Prt} : recV (f :: r) = if f.ok = true ∧ f.k = 0 ∧ cntN f.l ≤ (f :: r).length ∧ ∀ k, k < cntN f.l → fits f ((f :: r).getD k prt0) k = true then ((((f :: r).take (cntN f.l)).map Prt.b).flatten, cntN f.l, true) else ([], 0, false) := by
  unfold recV recAt
  have e : ∀ c : Bool, ∀ (a : List UInt8 × Nat), (match (if c = true then some a else none) with | none => ([], 0, false) | some (t, n) => (t, n, true)) = if c = true then (a.1, a.2, true) else (([] : List UInt8), 0, false) := fun c a => by cases c <;> rfl
  rw [e]
  congr 1
  rw [Bool.and_eq_true, Bool.and_eq_true, Bool.and_eq_true, decide_eq_true_eq, decide_eq_true_eq, List.all_eq_true]
  unfold fits
  simp only [List.mem_range, eq_iff_iff]
  constructor
  · rintro ⟨⟨⟨a, b⟩, c⟩, d⟩; exact ⟨a, b, c, d⟩
  · rintro ⟨a, b, c, d⟩; exact ⟨⟨⟨a, b⟩, c⟩, d⟩
theorem recV_no {f : Prt} {r : List Prt} {k : Nat} (hk : k < cntN f.l) (h : fits f ((f :: r).getD k prt0) k = false) : recV (f :: r) = ([], 0, false) := by
  rw [recV_eq, if_neg]
  rintro ⟨_, _, _, h2⟩
  rw [h2 k hk] at h; cases h
def txtK (l : List Prt) (k : Nat) : List UInt8 := ((l.take k).map Prt.b).flatten
theorem txtK_len {l : List Prt} (h : ∀ p ∈ l, p.b.length ≤ 48) : ∀ k, k ≤ l.length → (txtK l k).length ≤ 48 * k
  | 0, _ => by simp [txtK]
  | k + 1, hk => by
    have h1 := txtK_len h k (by omega)
    unfold txtK at h1 ⊢
    rw [List.take_succ_eq_append_getElem (by omega), List.map_append, List.flatten_append, List.map_singleton, List.flatten_singleton, List.length_append]
    have := h _ (List.getElem_mem (show k < l.length by omega))
    omega
theorem txtK_succ {l : List Prt} {k : Nat} (h : k < l.length) : txtK l (k + 1) = txtK l k ++ l[k].b := by
  unfold txtK
  rw [List.take_succ_eq_append_getElem h, List.map_append, List.flatten_append, List.map_singleton, List.flatten_singleton]
end Go.Jn
namespace Go.Proofs.YtbmnbdkbgpajeaaDoor
open Go.RowKit Go.Own Go.Jn Go.Disk Go.BigFrame Go.Sha
attribute [local go_sem] setCell_twice str_size op_str_eql op_str_neq str_append
def recR (x : List UInt8 × Nat × Bool) : Value := .tuple #[str x.1, .int .i64 x.2.1, .bool x.2.2]
set_option maxRecDepth 100000 in
set_option maxHeartbeats 2000000 in
theorem record_any (f : Prt) (r : List Prt) (b off cap : Nat) (w : World) (hC : Cells w b off (prts (f :: r))) (hb : b < w.heap.size) (hcap : (f :: r).length ≤ cap ∧ cap ≤ maxLen) (hf : f.l ≤ 8000) (hfk : f.k < 65536) (hn : f.n ≤ 4096)
    (hr : ∀ p ∈ r, p.l < 65536 ∧ p.k < 65536 ∧ p.n ≤ 4096) (hbl : ∀ p ∈ f :: r, p.b.length ≤ 48) :
    Calls Tryd.prog 34 #[.slice (some ⟨b, off, none⟩) (f :: r).length cap] w fun e w' => e = .returned (recR (recV (f :: r))) ∧ Below w.heap.size w w' := by
  have hcap2 := hcap.2
  unfold maxLen at hcap2
  have hc0 : Cells w b off (prtC f) := by have := prts_cells hC (k := 0) (by simp); simpa using this
  obtain ⟨n, hnl⟩ : ∃ n, n = (f :: r).length := ⟨_, rfl⟩
  have hn1 : 1 ≤ n := by rw [hnl]; simp
  have hpos : (0 : Int) < n := by omega
  rw [← hnl] at hcap ⊢
  have HNL := Lib.hid hnl; clear hnl
  have HR := Lib.hid hr; clear hr
  have HBL := Lib.hid hbl; clear hbl
  have HC := Lib.hid hC; clear hC
  have hcI := cntI_nat f.l
  have hcp := cntN_pos hf
  obtain ⟨c, hc⟩ : ∃ c, c = cntN f.l := ⟨_, rfl⟩
  rw [← hc] at hcI hcp
  have HCN := Lib.hid hc; clear hc
  go_enter Tryd.func34, Tryd.ntmps34
  go_wp2_with (first | (refine wpList_load_agg (prtC f) hc0 rfl rfl rfl aggPart infoPart ?_) | (refine wpList_store_blk (ty := 65) (n := 5) (vs := prtC f) (Blk.new _ _ 65) rfl rfl rfl rfl rfl infoPart rfl (by simp) (prtC_one _) ?_))
  intro w1 k1 o1
  have k1' : Blk w1 w.heap.size (prtC f) 65 := by simpa using k1
  have b1 : Below w.heap.size w w1 := o1.below (alloc_below _ _) (Nat.le_refl _)
  clear k1 o1 hc0
  have q0 : w1.cell? ⟨w.heap.size, 0, none⟩ = some (.int .i64 f.n) := k1'.cell rfl
  have q1 : w1.cell? ⟨w.heap.size, 1, none⟩ = some (.int .i64 f.k) := k1'.cell rfl
  have q2 : w1.cell? ⟨w.heap.size, 2, none⟩ = some (.int .i64 f.l) := k1'.cell rfl
  have q4 : w1.cell? ⟨w.heap.size, 4, none⟩ = some (.bool f.ok) := k1'.cell rfl
  have lF : w.heap.size < w1.heap.size := k1'.lt
  obtain ⟨F, hF⟩ : ∃ F, F = w.heap.size := ⟨_, rfl⟩
  rw [← hF] at k1' q0 q1 q2 q4 lF b1 hb ⊢
  have HF := Lib.hid hF; clear hF
  have HB1 := Lib.hid b1; clear b1
  have HK1 := Lib.hid k1'; clear k1'
  have BAD : ∀ (l : List Prt) (W : World), recV l = ([], 0, false) → Below F w W → (Ending.returned (.tuple #[.string ⟨#[]⟩, .int .i64 0, .bool false]) = .returned (recR (recV l)) ∧ Below w.heap.size w W) := fun l W h1 h2 => ⟨by rw [h1]; rfl, by rw [← HF.out]; exact h2⟩
  have HBAD := Lib.hid BAD; clear BAD
  cases hok : f.ok with
  | false =>
    have hv : recV (f :: r) = ([], 0, false) := by rw [recV_eq, if_neg]; rintro ⟨h, _⟩; rw [hok] at h; cases h
    rw [hok] at q4
    have HV := Lib.hid hv; clear hv hok
    go_wp2_with (go_at_call 11; refine (count_any _ _).mono ?_; rintro e w' ⟨rfl, rfl⟩)
    go_ret3
    exact HBAD.out _ _ HV.out HB1.out
  | true =>
  rw [hok] at q4
  have HOK := Lib.hid hok; clear hok
  by_cases hk0 : ¬ f.k = 0
  · have hv : recV (f :: r) = ([], 0, false) := by rw [recV_eq, if_neg]; rintro ⟨_, h, _⟩; exact hk0 h
    have d1 : ((f.k : Int) != 0) = true := by rw [bne_iff_ne]; omega
    have HV := Lib.hid hv; clear hv
    have HK0 := Lib.hid hk0; clear hk0
    go_wp2_with (go_at_call 11; refine (count_any _ _).mono ?_; rintro e w' ⟨rfl, rfl⟩)
    go_ret3
    exact HBAD.out _ _ HV.out HB1.out
  replace hk0 : f.k = 0 := Decidable.not_not.1 hk0
  have d1 : ((f.k : Int) != 0) = false := by rw [bne_eq_false_iff_eq]; omega
  have HK0 := Lib.hid hk0; clear hk0
  by_cases hcn : n < c
  · have hv : recV (f :: r) = ([], 0, false) := by rw [recV_eq, if_neg]; rintro ⟨_, _, h, _⟩; rw [← HNL.out, ← HCN.out] at h; omega
    have d2 : ((n : Int) < (c : Int)) = True := eq_true (by omega)
    have d2' : (n < c) = True := eq_true hcn
    have HV := Lib.hid hv; clear hv hcn
    go_wp2_with (go_at_call 11; refine (count_any _ _).mono ?_; rintro e w' ⟨rfl, rfl⟩)
    go_ret3
    exact HBAD.out _ _ HV.out HB1.out
  have d2 : ((n : Int) < (c : Int)) = False := eq_false (by omega)
  have d2' : (n < c) = False := eq_false hcn
  go_wp2_with (go_at_call 11; refine (count_any _ _).mono ?_; rintro e wz ⟨rfl, rfl⟩)
  clear q0 q1 q2 q4 d1 d2 d2' hcI hpos
  have hcn' : c ≤ n := by omega
  clear hcn
  obtain ⟨W1, hW1⟩ : ∃ W1 : World, W1 = wz := ⟨_, rfl⟩
  have lF1 : F < W1.heap.size := by rw [hW1]; exact lF
  have lb1 : b < W1.heap.size := by have := HB1.out.size; omega
  rw [← hW1] at HB1 HK1
  clear lF
  have HW1 := Lib.hid hW1; clear hW1
  go_loopw [7, 34] (fun tx i wr => ∃ k : Nat, k ≤ c ∧ i = .int .i64 k ∧ tx = str (txtK (f :: r) k) ∧ Hid (∀ j, j < k → fits f ((f :: r).getD j prt0) j = true) ∧ Below W1.heap.size W1 wr) (fun _ i _ => c - (jInt i).toNat)
  case atStart => exact ⟨0, Nat.zero_le _, rfl, rfl, Lib.hid (fun j hj => by omega), by rw [HW1.out]; exact Below.refl _ _⟩
  case round =>
    obtain ⟨k, hk, rfl, rfl, hfit, hbw⟩ := hrel
    have hBw : Below F w wr := HB1.out.trans (hbw.mono (by omega))
    by_cases hlt : k < c
    · have hkn : k < (f :: r).length := by rw [← HNL.out]; omega
      have hpc := prts_cells (HC.out.below hBw hb) hkn
      obtain ⟨p, hp⟩ : ∃ p, p = (f :: r)[k] := ⟨_, rfl⟩
      have hpd : (f :: r).getD k prt0 = p := by rw [List.getD_eq_getElem?_getD, List.getElem?_eq_getElem hkn, hp]; rfl
      have hpb : p.l < 65536 ∧ p.k < 65536 ∧ p.n ≤ 4096 := by
        have hm : p ∈ f :: r := by rw [hp]; exact List.getElem_mem hkn
        rcases List.mem_cons.1 hm with rfl | hm
        · exact ⟨by omega, hfk, hn⟩
        · exact HR.out p hm
      have hpbl : p.b.length ≤ 48 := by rw [hp]; exact HBL.out _ (List.getElem_mem hkn)
      have htl := txtK_len HBL.out k (Nat.le_of_lt hkn)
      have HTX : Hid (txtK (f :: r) (k + 1) = txtK (f :: r) k ++ p.b) := Lib.hid (by rw [txtK_succ hkn, hp])
      rw [← hp] at hpc
      have HP := Lib.hid hp; clear hp
      have HPD := Lib.hid hpd; clear hpd
      obtain ⟨tx, htx⟩ : ∃ tx, tx = txtK (f :: r) k := ⟨_, rfl⟩
      rw [← htx] at HTX htl ⊢
      have hcat : tx.length + p.b.length ≤ 9223372036854775807 := by omega
      have hcat2 : (tx.length : Int) + (p.b.length : Int) ≤ 9223372036854775807 := by omega
      have HTE := Lib.hid htx; clear htx
      have kF := HK1.out.below hbw lF1
      have q0 : wr.cell? ⟨F, 0, none⟩ = some (.int .i64 f.n) := kF.cell rfl
      have q2 : wr.cell? ⟨F, 2, none⟩ = some (.int .i64 f.l) := kF.cell rfl
      have lFr : F < wr.heap.size := kF.lt
      have HKF := Lib.hid kF; clear kF
      have hlc : (k : Int) < c := by omega
      have hkn2 : (k : Int) < n := by omega
      have HBW := Lib.hid hbw; clear hbw
      have HBF := Lib.hid hBw; clear hBw
      go_wp2_with (first | (refine wpList_load_agg (prtC p) hpc rfl rfl rfl aggPart infoPart ?_) | (refine wpList_store_blk (ty := 65) (n := 5) (vs := prtC p) (Blk.new _ _ 65) rfl rfl rfl rfl rfl infoPart rfl (by simp) (prtC_one _) ?_))
      intro w2 k2 o2
      have k2' : Blk w2 wr.heap.size (prtC p) 65 := by simpa using k2
      have b2 : Below wr.heap.size wr w2 := o2.below (alloc_below _ _) (Nat.le_refl _)
      have p0 : w2.cell? ⟨wr.heap.size, 0, none⟩ = some (.int .i64 p.n) := k2'.cell rfl
      have p1 : w2.cell? ⟨wr.heap.size, 1, none⟩ = some (.int .i64 p.k) := k2'.cell rfl
      have p2 : w2.cell? ⟨wr.heap.size, 2, none⟩ = some (.int .i64 p.l) := k2'.cell rfl
      have p3 : w2.cell? ⟨wr.heap.size, 3, none⟩ = some (str p.b) := k2'.cell rfl
      have p4 : w2.cell? ⟨wr.heap.size, 4, none⟩ = some (.bool p.ok) := k2'.cell rfl
      have f0 : w2.cell? ⟨F, 0, none⟩ = some (.int .i64 f.n) := (b2.cell (p := ⟨F, 0, none⟩) lFr).trans q0
      have f2 : w2.cell? ⟨F, 2, none⟩ = some (.int .i64 f.l) := (b2.cell (p := ⟨F, 2, none⟩) lFr).trans q2
      have B2 := Lib.hid (HBF.out.trans (b2.mono (by omega)))
      have B3 := Lib.hid (HBW.out.trans (b2.mono HBW.out.size))
      obtain ⟨R, hR⟩ : ∃ R, R = wr.heap.size := ⟨_, rfl⟩
      rw [← hR] at p0 p1 p2 p3 p4 ⊢
      clear k2 k2' o2 b2 q0 q2 hR lFr
      cases hpo : p.ok with
      | false =>
        rw [hpo] at p4
        have hv : recV (f :: r) = ([], 0, false) := recV_no (k := k) (by rw [← HCN.out]; omega) (by rw [HPD.out]; unfold fits; rw [hpo]; rfl)
        have HV := Lib.hid hv; clear hv hpo
        go_wp2
        go_ret3
        exact HBAD.out _ _ HV.out B2.out
      | true =>
      rw [hpo] at p4
      have HPO := Lib.hid hpo; clear hpo
      by_cases e2 : ¬ p.n = f.n
      · have d2 : ((p.n : Int) != (f.n : Int)) = true := by rw [bne_iff_ne]; omega
        have hv : recV (f :: r) = ([], 0, false) := recV_no (k := k) (by rw [← HCN.out]; omega) (by rw [HPD.out]; unfold fits; rw [decide_eq_false e2]; simp)
        have HV := Lib.hid hv; clear hv e2
        go_wp2
        go_ret3
        exact HBAD.out _ _ HV.out B2.out
      replace e2 : p.n = f.n := Decidable.not_not.1 e2
      have d2 : ((p.n : Int) != (f.n : Int)) = false := by rw [bne_eq_false_iff_eq]; omega
      have E2 := Lib.hid e2; clear e2
      by_cases e3 : ¬ p.k = k
      · have d3 : ((p.k : Int) != (k : Int)) = true := by rw [bne_iff_ne]; omega
        have hv : recV (f :: r) = ([], 0, false) := recV_no (k := k) (by rw [← HCN.out]; omega) (by rw [HPD.out]; unfold fits; rw [decide_eq_false e3]; simp)
        have HV := Lib.hid hv; clear hv e3
        go_wp2
        go_ret3
        exact HBAD.out _ _ HV.out B2.out
      replace e3 : p.k = k := Decidable.not_not.1 e3
      have d3 : ((p.k : Int) != (k : Int)) = false := by rw [bne_eq_false_iff_eq]; omega
      have E3 := Lib.hid e3; clear e3
      by_cases e4 : ¬ p.l + 48 * k = f.l
      · have d4 : ((p.l : Int) != (f.l : Int) - 48 * (k : Int)) = true := by rw [bne_iff_ne]; omega
        have hv : recV (f :: r) = ([], 0, false) := recV_no (k := k) (by rw [← HCN.out]; omega) (by rw [HPD.out]; unfold fits; rw [decide_eq_false e4]; simp)
        have HV := Lib.hid hv; clear hv e4
        go_wp2
        go_ret3
        exact HBAD.out _ _ HV.out B2.out
      replace e4 : p.l + 48 * k = f.l := Decidable.not_not.1 e4
      have d4 : ((p.l : Int) != (f.l : Int) - 48 * (k : Int)) = false := by rw [bne_eq_false_iff_eq]; omega
      have hgo : fits f p k = true := by unfold fits; rw [HPO.out, decide_eq_true E2.out, decide_eq_true E3.out, decide_eq_true e4]; rfl
      have HGO := Lib.hid hgo; clear hgo
      have E4 := Lib.hid e4; clear e4
      go_wp2
      go_roundw
      case rel =>
        refine ⟨k + 1, by omega, by go_num, by rw [HTX.out], Lib.hid (fun j hj => ?_), B3.out⟩
        by_cases e : j < k
        · exact hfit.out j e
        · obtain rfl : j = k := by omega
          rw [HPD.out]; exact HGO.out
      case measure => simp [jInt]; omega
    · obtain rfl : k = c := by omega
      have hv : recV (f :: r) = (txtK (f :: r) k, k, true) := by
        rw [recV_eq, if_pos ⟨HOK.out, HK0.out, by rw [← HNL.out, ← HCN.out]; exact hcn', fun j hj => hfit.out j (by rw [HCN.out]; exact hj)⟩, ← HCN.out]
        rfl
      have HV := Lib.hid hv; clear hv
      have HBF := Lib.hid hBw; clear hBw hbw
      go_wp2
      go_ret3
      refine ⟨by rw [HV.out]; rfl, ?_⟩
      rw [← HF.out]
      exact HBF.out
end Go.Proofs.YtbmnbdkbgpajeaaDoor
end
/-
  DERIVED: THE SHELF's CONTRACTS AT THIS DUMP, IN PLAIN WORDS (tools/lay-plain.mjs out of 'YtbmnbdkbgpajeaaDoorShA.lean', which tools/lay-shelf.mjs wrote): THE SAME DECLARATIONS UNDER THE SAME NAMES: 'import', 'namespace', 'open', 'def', 'theorem' AND NOTHING ELSE: no command of the shelf's: FOR A HAND-IN. Each laying: the table of numbers ('.._ren') and one theorem, a field a fact of the dump's own or the kernel's comparison; each contract: ONE APPLICATION.
-/
section
namespace Go.Proofs
open Go.Shelf
def Tryd.keysP_ren : Go.Shelf.Ren := ⟨fun | 7 => 75 | 10 => 80 | n => n, fun | 23 => 69 | 26 => 3 | 3 => 98 | 28 => 137 | 0 => 0 | 27 => 136 | 33 => 143 | 4 => 4 | n => n, fun | n => n⟩
theorem Tryd.keysP : Go.Proofs.SlLaysZI.n7 Tryd.prog Tryd.keysP_ren := {
  mixed := by kernel_rfl
  f7 := ⟨Tryd.f75.name, by decide, Tryd.func75.trans (congrArg some (by kernel_rfl))⟩
  f10 := ⟨Tryd.f80.name, by decide, Tryd.func80.trans (congrArg some (by kernel_rfl))⟩
  t0 := Tryd.underlying0
  a0 := Tryd.isAgg0
  z0 := Tryd.sizeOf0
  v0 := Tryd.zeroValue0
  t4 := Tryd.underlying4
  a4 := Tryd.isAgg4
  z4 := Tryd.sizeOf4
  v4 := Tryd.zeroValue4
  t23 := Tryd.underlying69
  a23 := Tryd.isAgg69
  z23 := Tryd.sizeOf69
  v23 := Tryd.zeroValue69
  t26 := Tryd.underlying3
  a26 := Tryd.isAgg3
  z26 := Tryd.sizeOf3
  v26 := Tryd.zeroValue3
  t27 := Tryd.underlying136
  a27 := Tryd.isAgg136
  z27 := Tryd.sizeOf136
  v27 := Tryd.zeroValue136
  t28 := Tryd.underlying137
  a28 := Tryd.isAgg137
  z28 := Tryd.sizeOf137
  v28 := Tryd.zeroValue137
  t33 := Tryd.underlying143
  a33 := Tryd.isAgg143
  z33 := Tryd.sizeOf143
  v33 := Tryd.zeroValue143 }
def Tryd.sortedA_ren : Go.Shelf.Ren := ⟨fun | 6 => 74 | 8 => 78 | 9 => 79 | 11 => 82 | 13 => 84 | 12 => 83 | 23 => 94 | 24 => 95 | 14 => 85 | 15 => 86 | 16 => 87 | 17 => 88 | 18 => 89 | 19 => 90 | 20 => 91 | 21 => 92 | 22 => 93 | 25 => 96 | 26 => 97 | 27 => 98 | 28 => 99 | 29 => 100 | 30 => 101 | 31 => 102 | n => n, fun | 26 => 3 | 28 => 137 | 24 => 44 | 0 => 0 | 3 => 3 | 37 => 85 | 48 => 109 | 50 => 112 | 4 => 4 | 40 => 149 | 39 => 148 | 45 => 154 | 5 => 5 | 9 => 9 | 51 => 158 | 55 => 162 | 57 => 164 | 58 => 165 | 33 => 143 | n => n, fun | n => n⟩
theorem Tryd.sortedA : Go.Proofs.SlLaysZI.n6 Tryd.prog Tryd.sortedA_ren := {
  mixed := by kernel_rfl
  f6 := ⟨Tryd.f74.name, by decide, Tryd.func74.trans (congrArg some (by kernel_rfl))⟩
  f8 := ⟨Tryd.f78.name, by decide, Tryd.func78.trans (congrArg some (by kernel_rfl))⟩
  f11 := ⟨Tryd.f82.name, by decide, Tryd.func82.trans (congrArg some (by kernel_rfl))⟩
  t0 := Tryd.underlying0
  a0 := Tryd.isAgg0
  z0 := Tryd.sizeOf0
  v0 := Tryd.zeroValue0
  t24 := Tryd.underlying44
  a24 := Tryd.isAgg44
  z24 := Tryd.sizeOf44
  v24 := Tryd.zeroValue44
  t26 := Tryd.underlying3
  a26 := Tryd.isAgg3
  z26 := Tryd.sizeOf3
  v26 := Tryd.zeroValue3
  t28 := Tryd.underlying137
  a28 := Tryd.isAgg137
  z28 := Tryd.sizeOf137
  v28 := Tryd.zeroValue137
  i26 := by kernel_rfl }
def Tryd.sortA_ren : Go.Shelf.Ren := ⟨fun | 5 => 79 | 8 => 84 | 7 => 83 | 19 => 94 | 20 => 95 | 10 => 85 | 11 => 86 | 12 => 87 | 13 => 88 | 14 => 89 | 15 => 90 | 16 => 91 | 17 => 92 | 18 => 93 | 30 => 96 | 31 => 97 | 32 => 98 | 33 => 99 | 34 => 100 | 35 => 101 | 40 => 102 | n => n, fun | 23 => 44 | 25 => 3 | 3 => 3 | 32 => 85 | 22 => 44 | 0 => 0 | 44 => 109 | 46 => 112 | 4 => 4 | 36 => 149 | 35 => 148 | 41 => 154 | 5 => 5 | 9 => 9 | 53 => 158 | 57 => 162 | 63 => 164 | 64 => 165 | n => n, fun | n => n⟩
theorem Tryd.sortA : Go.Proofs.SlLaysM.n5 Tryd.prog Tryd.sortA_ren := {
  mixed := by kernel_rfl
  f5 := ⟨Tryd.f79.name, by decide, Tryd.func79.trans (congrArg some (by kernel_rfl))⟩
  f7 := ⟨Tryd.f83.name, by decide, Tryd.func83.trans (congrArg some (by kernel_rfl))⟩
  f8 := Tryd.func84.trans (congrArg some (by kernel_rfl))
  f10 := ⟨Tryd.f85.name, by decide, Tryd.func85.trans (congrArg some (by kernel_rfl))⟩
  f11 := ⟨Tryd.f86.name, by decide, Tryd.func86.trans (congrArg some (by kernel_rfl))⟩
  f12 := ⟨Tryd.f87.name, by decide, Tryd.func87.trans (congrArg some (by kernel_rfl))⟩
  f13 := ⟨Tryd.f88.name, by decide, Tryd.func88.trans (congrArg some (by kernel_rfl))⟩
  f14 := ⟨Tryd.f89.name, by decide, Tryd.func89.trans (congrArg some (by kernel_rfl))⟩
  f15 := ⟨Tryd.f90.name, by decide, Tryd.func90.trans (congrArg some (by kernel_rfl))⟩
  f16 := ⟨Tryd.f91.name, by decide, Tryd.func91.trans (congrArg some (by kernel_rfl))⟩
  f17 := ⟨Tryd.f92.name, by decide, Tryd.func92.trans (congrArg some (by kernel_rfl))⟩
  f18 := ⟨Tryd.f93.name, by decide, Tryd.func93.trans (congrArg some (by kernel_rfl))⟩
  f19 := Tryd.func94.trans (congrArg some (by kernel_rfl))
  f20 := Tryd.func95.trans (congrArg some (by kernel_rfl))
  f30 := ⟨Tryd.f96.name, by decide, Tryd.func96.trans (congrArg some (by kernel_rfl))⟩
  f31 := Tryd.func97.trans (congrArg some (by kernel_rfl))
  f32 := Tryd.func98.trans (congrArg some (by kernel_rfl))
  f33 := ⟨Tryd.f99.name, by decide, Tryd.func99.trans (congrArg some (by kernel_rfl))⟩
  f34 := ⟨Tryd.f100.name, by decide, Tryd.func100.trans (congrArg some (by kernel_rfl))⟩
  f35 := ⟨Tryd.f101.name, by decide, Tryd.func101.trans (congrArg some (by kernel_rfl))⟩
  f40 := ⟨Tryd.f102.name, by decide, Tryd.func102.trans (congrArg some (by kernel_rfl))⟩
  t0 := Tryd.underlying0
  a0 := Tryd.isAgg0
  z0 := Tryd.sizeOf0
  v0 := Tryd.zeroValue0
  t3 := Tryd.underlying3
  a3 := Tryd.isAgg3
  z3 := Tryd.sizeOf3
  v3 := Tryd.zeroValue3
  t4 := Tryd.underlying4
  a4 := Tryd.isAgg4
  z4 := Tryd.sizeOf4
  v4 := Tryd.zeroValue4
  t5 := Tryd.underlying5
  a5 := Tryd.isAgg5
  z5 := Tryd.sizeOf5
  v5 := Tryd.zeroValue5
  t9 := Tryd.underlying9
  a9 := Tryd.isAgg9
  z9 := Tryd.sizeOf9
  v9 := Tryd.zeroValue9
  t22 := Tryd.underlying44
  a22 := Tryd.isAgg44
  z22 := Tryd.sizeOf44
  v22 := Tryd.zeroValue44
  t23 := Tryd.underlying44
  a23 := Tryd.isAgg44
  z23 := Tryd.sizeOf44
  v23 := Tryd.zeroValue44
  t25 := Tryd.underlying3
  a25 := Tryd.isAgg3
  z25 := Tryd.sizeOf3
  v25 := Tryd.zeroValue3
  t32 := Tryd.underlying85
  a32 := Tryd.isAgg85
  z32 := Tryd.sizeOf85
  v32 := Tryd.zeroValue85
  t35 := Tryd.underlying148
  a35 := Tryd.isAgg148
  z35 := Tryd.sizeOf148
  v35 := Tryd.zeroValue148
  t36 := Tryd.underlying149
  a36 := Tryd.isAgg149
  z36 := Tryd.sizeOf149
  v36 := Tryd.zeroValue149
  t41 := Tryd.underlying154
  a41 := Tryd.isAgg154
  z41 := Tryd.sizeOf154
  v41 := Tryd.zeroValue154
  t44 := Tryd.underlying109
  a44 := Tryd.isAgg109
  z44 := Tryd.sizeOf109
  v44 := Tryd.zeroValue109
  t46 := Tryd.underlying112
  a46 := Tryd.isAgg112
  z46 := Tryd.sizeOf112
  v46 := Tryd.zeroValue112
  t53 := Tryd.underlying158
  a53 := Tryd.isAgg158
  z53 := Tryd.sizeOf158
  v53 := Tryd.zeroValue158
  t57 := Tryd.underlying162
  a57 := Tryd.isAgg162
  z57 := Tryd.sizeOf162
  v57 := Tryd.zeroValue162
  t63 := Tryd.underlying164
  a63 := Tryd.isAgg164
  z63 := Tryd.sizeOf164
  v63 := Tryd.zeroValue164
  t64 := Tryd.underlying165
  a64 := Tryd.isAgg165
  z64 := Tryd.sizeOf165
  v64 := Tryd.zeroValue165 }
def Tryd.cloneI_ren : Go.Shelf.Ren := ⟨fun | 41 => 37 | n => n, fun | 22 => 44 | 23 => 3 | 4 => 4 | n => n, fun | n => n⟩
theorem Tryd.cloneI : Go.Proofs.SlLaysE0.n41 Tryd.prog Tryd.cloneI_ren := {
  mixed := by kernel_rfl
  f41 := ⟨Tryd.f37.name, by decide, Tryd.func37.trans (congrArg some (by kernel_rfl))⟩
  t4 := Tryd.underlying4
  a4 := Tryd.isAgg4
  z4 := Tryd.sizeOf4
  v4 := Tryd.zeroValue4
  t22 := Tryd.underlying44
  a22 := Tryd.isAgg44
  z22 := Tryd.sizeOf44
  v22 := Tryd.zeroValue44 }
def Tryd.cloneS_ren : Go.Shelf.Ren := ⟨fun | 41 => 38 | n => n, fun | 22 => 23 | 23 => 9 | 4 => 4 | n => n, fun | n => n⟩
theorem Tryd.cloneS : Go.Proofs.SlLaysE0.n41 Tryd.prog Tryd.cloneS_ren := {
  mixed := by kernel_rfl
  f41 := ⟨Tryd.f38.name, by decide, Tryd.func38.trans (congrArg some (by kernel_rfl))⟩
  t4 := Tryd.underlying4
  a4 := Tryd.isAgg4
  z4 := Tryd.sizeOf4
  v4 := Tryd.zeroValue4
  t22 := Tryd.underlying23
  a22 := Tryd.isAgg23
  z22 := Tryd.sizeOf23
  v22 := Tryd.zeroValue23 }
def Tryd.lays107_ren : Go.Shelf.Ren := ⟨fun | 107 => 35 | 108 => 52 | n => n, fun | 28 => 44 | 3 => 3 | 4 => 4 | 0 => 0 | n => n, fun | n => n⟩
theorem Tryd.lays107 : Go.Proofs.Lays.n107 Tryd.prog Tryd.lays107_ren := {
  mixed := by kernel_rfl
  f107 := Tryd.func35.trans (congrArg some (by kernel_rfl))
  f108 := Tryd.func52.trans (congrArg some (by kernel_rfl))
  t0 := Tryd.underlying0
  a0 := Tryd.isAgg0
  z0 := Tryd.sizeOf0
  v0 := Tryd.zeroValue0
  t3 := Tryd.underlying3
  a3 := Tryd.isAgg3
  z3 := Tryd.sizeOf3
  v3 := Tryd.zeroValue3
  t4 := Tryd.underlying4
  a4 := Tryd.isAgg4
  z4 := Tryd.sizeOf4
  v4 := Tryd.zeroValue4
  t28 := Tryd.underlying44
  a28 := Tryd.isAgg44
  z28 := Tryd.sizeOf44
  v28 := Tryd.zeroValue44 }
def Tryd.lays105_ren : Go.Shelf.Ren := ⟨fun | 105 => 23 | 212 => 39 | 99 => 40 | 165 => 41 | 166 => 42 | 170 => 43 | 169 => 44 | 263 => 55 | 264 => 56 | 206 => 57 | 240 => 58 | 241 => 59 | 276 => 70 | 277 => 71 | n => n, fun | 9 => 9 | 3 => 3 | 4 => 4 | 20 => 20 | 0 => 0 | 46 => 85 | 109 => 86 | 5 => 5 | 72 => 91 | 76 => 95 | 51 => 109 | 146 => 110 | 53 => 112 | 148 => 113 | 70 => 89 | 37 => 36 | 75 => 94 | 127 => 115 | 164 => 130 | 80 => 97 | n => n, fun | n => n⟩
theorem Tryd.lays105 : Go.Proofs.Lays.n105 Tryd.prog Tryd.lays105_ren := {
  mixed := by kernel_rfl
  f99 := Tryd.func40.trans (congrArg some (by kernel_rfl))
  f105 := Tryd.func23.trans (congrArg some (by kernel_rfl))
  f165 := Tryd.func41.trans (congrArg some (by kernel_rfl))
  f166 := Tryd.func42.trans (congrArg some (by kernel_rfl))
  f169 := Tryd.func44.trans (congrArg some (by kernel_rfl))
  f170 := Tryd.func43.trans (congrArg some (by kernel_rfl))
  f206 := Tryd.func57.trans (congrArg some (by kernel_rfl))
  f212 := Tryd.func39.trans (congrArg some (by kernel_rfl))
  f240 := Tryd.func58.trans (congrArg some (by kernel_rfl))
  f241 := Tryd.func59.trans (congrArg some (by kernel_rfl))
  f263 := Tryd.func55.trans (congrArg some (by kernel_rfl))
  f264 := Tryd.func56.trans (congrArg some (by kernel_rfl))
  f276 := Tryd.func70.trans (congrArg some (by kernel_rfl))
  f277 := Tryd.func71.trans (congrArg some (by kernel_rfl))
  t0 := Tryd.underlying0
  a0 := Tryd.isAgg0
  z0 := Tryd.sizeOf0
  v0 := Tryd.zeroValue0
  t3 := Tryd.underlying3
  a3 := Tryd.isAgg3
  z3 := Tryd.sizeOf3
  v3 := Tryd.zeroValue3
  t4 := Tryd.underlying4
  a4 := Tryd.isAgg4
  z4 := Tryd.sizeOf4
  v4 := Tryd.zeroValue4
  t5 := Tryd.underlying5
  a5 := Tryd.isAgg5
  z5 := Tryd.sizeOf5
  v5 := Tryd.zeroValue5
  t9 := Tryd.underlying9
  a9 := Tryd.isAgg9
  z9 := Tryd.sizeOf9
  v9 := Tryd.zeroValue9
  t20 := Tryd.underlying20
  a20 := Tryd.isAgg20
  z20 := Tryd.sizeOf20
  v20 := Tryd.zeroValue20
  t37 := Tryd.underlying36
  a37 := Tryd.isAgg36
  z37 := Tryd.sizeOf36
  v37 := Tryd.zeroValue36
  t46 := Tryd.underlying85
  a46 := Tryd.isAgg85
  z46 := Tryd.sizeOf85
  v46 := Tryd.zeroValue85
  t51 := Tryd.underlying109
  a51 := Tryd.isAgg109
  z51 := Tryd.sizeOf109
  v51 := Tryd.zeroValue109
  t53 := Tryd.underlying112
  a53 := Tryd.isAgg112
  z53 := Tryd.sizeOf112
  v53 := Tryd.zeroValue112
  t70 := Tryd.underlying89
  a70 := Tryd.isAgg89
  z70 := Tryd.sizeOf89
  v70 := Tryd.zeroValue89
  t72 := Tryd.underlying91
  a72 := Tryd.isAgg91
  z72 := Tryd.sizeOf91
  v72 := Tryd.zeroValue91
  t75 := Tryd.underlying94
  a75 := Tryd.isAgg94
  z75 := Tryd.sizeOf94
  v75 := Tryd.zeroValue94
  t76 := Tryd.underlying95
  a76 := Tryd.isAgg95
  z76 := Tryd.sizeOf95
  v76 := Tryd.zeroValue95
  t109 := Tryd.underlying86
  a109 := Tryd.isAgg86
  z109 := Tryd.sizeOf86
  v109 := Tryd.zeroValue86
  t127 := Tryd.underlying115
  a127 := Tryd.isAgg115
  z127 := Tryd.sizeOf115
  v127 := Tryd.zeroValue115
  t146 := Tryd.underlying110
  a146 := Tryd.isAgg110
  z146 := Tryd.sizeOf110
  v146 := Tryd.zeroValue110
  t148 := Tryd.underlying113
  a148 := Tryd.isAgg113
  z148 := Tryd.sizeOf113
  v148 := Tryd.zeroValue113
  t164 := Tryd.underlying130
  a164 := Tryd.isAgg130
  z164 := Tryd.sizeOf130
  v164 := Tryd.zeroValue130 }
theorem Tryd.Builder_Extra_105 : Builder.Extra Tryd.prog Tryd.lays105_ren := {
  sizeBuilder := by kernel_rfl
  liesBuilder := by kernel_rfl
  t5 := Tryd.underlying5
  a5 := Tryd.isAgg5
  z5 := Tryd.sizeOf5
  v5 := Tryd.zeroValue5
  infoByte := by kernel_rfl
  cellsByte := by kernel_rfl
  sizeByte := by kernel_rfl
  neB5 := by decide }
end Go.Proofs
end
/- Pending and Worn of the program's disk: plain laws on the keys. -/
section
namespace Go.Proofs.YtbmnbdkbgpajeaaDoor
open Go.RowKit Go.Own Go.Disk Go.Maps
theorem mget_mem (m : List (Int × Value)) (k : Int) : (mget m k).isSome = true ↔ k ∈ m.map (·.1) := by
  unfold mget
  rw [Option.isSome_map, List.find?_isSome]
  constructor
  · rintro ⟨p, hp, e⟩
    exact List.mem_map.2 ⟨p, hp, by simpa using e⟩
  · intro h
    obtain ⟨p, hp, e⟩ := List.mem_map.1 h
    exact ⟨p, hp, by simpa using e⟩
theorem keys_perm {m : List (Int × Value)} {L : List Nat} (hnd : (m.map (·.1)).Nodup) (hmem : ∀ k : Int, (mget m k).isSome = true ↔ ∃ j ∈ L, k = (j : Int)) (hL : L.Nodup) : (m.map (·.1)).Perm (L.map fun (j : Nat) => (j : Int)) := by
  refine (List.perm_ext_iff_of_nodup hnd ?_).2 fun k => ?_
  · exact List.pairwise_map.2 (hL.imp fun hne e => hne (by omega))
  · rw [← mget_mem, hmem, List.mem_map]
    exact ⟨fun ⟨j, h1, h2⟩ => ⟨j, h1, h2.symm⟩, fun ⟨j, h1, h2⟩ => ⟨j, h1, h2.symm⟩⟩
theorem sorted_keys {ss : List Int} {L : List Nat} (h : ss.Perm (L.map fun (j : Nat) => (j : Int))) (hL : L.Pairwise (· < ·)) : ss.mergeSort (fun x y => decide (x ≤ y)) = L.map fun (j : Nat) => (j : Int) := by
  have tr : ∀ a b c : Int, leI a b = true → leI b c = true → leI a c = true := fun a b c h1 h2 => by simp only [leI, decide_eq_true_eq] at *; exact Int.le_trans h1 h2
  have tt : ∀ a b : Int, (leI a b || leI b a) = true := fun a b => by simp only [leI, Bool.or_eq_true, decide_eq_true_eq]; exact Int.le_total a b
  refine List.Perm.eq_of_pairwise (le := fun a b => leI a b = true) (fun a b _ _ h1 h2 => ?_) (List.pairwise_mergeSort tr tt ss) ?_ ((List.mergeSort_perm ss leI).trans h)
  · simp only [leI, decide_eq_true_eq] at h1 h2
    exact Int.le_antisymm h1 h2
  · exact List.pairwise_map.2 (hL.imp fun hlt => by simp only [leI, decide_eq_true_eq]; omega)
theorem range_filter_lt (n : Nat) (p : Nat → Bool) : ((List.range n).filter p).Pairwise (· < ·) := List.Pairwise.filter p List.pairwise_lt_range
theorem IMap.owns {H : Type} {P : Program} {k : TypeId} {w : World} {b : Nat} {m : List (Int × Value)} (hk : P.underlying k = some (.int .i64)) (hm : IMap w b m) (hr : ∀ p ∈ m, -9223372036854775808 ≤ p.1 ∧ p.1 ≤ 9223372036854775807) (hl : m.length ≤ maxLen) :
    ∃ D : DataW H, w.ownsMap P k (fun _ => some (.nil, [])) b m.length D ∧ (intKeys D).Perm (m.map (·.1)) ∧ Maps.size D = m.length := by
  obtain ⟨es, clock, hb, hs, h4⟩ := hm
  have hlen : es.toList.length = m.length := by have := congrArg List.length h4; simpa using this
  have hkey : ∀ x ∈ es.toList, ∃ a : Int, x.key = .int .i64 a ∧ keyOf P k x.key = some (.int .i64 a) := by
    intro x hx
    have h5 : (x.key, x.val) ∈ es.toList.map (fun e => (e.key, e.val)) := List.mem_map.2 ⟨x, hx, rfl⟩
    rw [h4] at h5
    obtain ⟨p, hp, e⟩ := List.mem_map.1 h5
    injection e with e1 _
    refine ⟨p.1, e1.symm, ?_⟩
    rw [← e1]
    have hw : (Lit.int .i64 p.1).wf = true := by
      have := hr p hp
      simp [Lit.wf, IntKind.min, IntKind.max, IntKind.signed, IntKind.bits]; omega
    simp [keyOf, hk, mapKey, hw]
  have hrd : ∀ x ∈ es.toList, ∃ a : Int, x.key = .int .i64 a ∧ WideElems.rd (H := H) P k (fun _ => some (.nil, [])) x = some (.int .i64 a, .nil) := by
    intro x hx
    obtain ⟨a, h1, h2⟩ := hkey x hx
    exact ⟨a, h1, by simp [WideElems.rd, h2]⟩
  refine ⟨_, ⟨es, clock, hb, ⟨by rw [← Array.length_toList, hlen]; exact hl, hs, fun x hx => ?_⟩, by rw [← Array.length_toList, hlen]; exact Nat.le_refl _, rfl⟩, ?_, ?_⟩
  · obtain ⟨a, _, h⟩ := hrd x hx
    exact ⟨_, h⟩
  · have hp := (WideShapes.sorted_perm (es.toList.map (WideElems.rg (H := H) P k fun _ => some (.nil, [])))).map fun p => Go.intOf p.1
    refine hp.trans (List.Perm.of_eq ?_)
    rw [List.map_map]
    have h5 : es.toList.map (fun e => e.key) = m.map fun p => Value.int .i64 p.1 := by
      have := congrArg (List.map Prod.fst) h4
      rw [List.map_map, List.map_map] at this
      exact this
    have h6 : (es.toList.map fun e => e.key).map (fun v => match v with | .int _ a => a | _ => 0) = m.map (·.1) := by
      rw [h5, List.map_map]; rfl
    rw [← h6, List.map_map]
    refine List.map_congr_left fun x hx => ?_
    obtain ⟨a, h1, h2⟩ := hrd x hx
    simp [WideElems.rg_of h2, h1, Go.intOf]
  · show ((es.toList.map (WideElems.rg (H := H) P k fun _ => some (.nil, []))).foldr DataW.insert []).length = m.length
    rw [length_sorted, List.length_map, hlen]
end Go.Proofs.YtbmnbdkbgpajeaaDoor
end
/- Pending and Worn of the program's disk. -/
section
namespace Go.Proofs.YtbmnbdkbgpajeaaDoor
open Go.RowKit Go.Own Go.Disk Go.Maps Go.Sort Go.Shelf
theorem sortsA (m : Nat) : AnyZI.SortsIn Tryd.prog Tryd.sortedA_ren Fence.wide m :=
  ⟨fun blk off cap ss W hH hblk hsz => callsIn_wide.2 (AnyM.slices_Sort_int Tryd.sortA blk off cap ss W hH hblk hsz),
   fun p cap W => callsIn_wide.2 (AnyM.slices_Sort_int_none Tryd.sortA p cap W)⟩
theorem pend_mem (d : DS) (k : Int) : (if inR d k then (sec d k).p.map bval else none).isSome = true ↔ ∃ j ∈ apend d.s, k = (j : Int) := by
  unfold apend
  constructor
  · intro h
    by_cases hk : inR d k = true
    · rw [if_pos hk, Option.isSome_map] at h
      obtain ⟨_, h1, h2, h3⟩ := sec_mem hk
      exact ⟨k.toNat, List.mem_filter.2 ⟨List.mem_range.2 h1, by rw [h3]; exact h⟩, by omega⟩
    · rw [if_neg hk] at h; cases h
  · rintro ⟨j, hj, rfl⟩
    obtain ⟨h1, h2⟩ := List.mem_filter.1 hj
    have h1 := List.mem_range.1 h1
    rw [if_pos (by simp [inR, h1]), Option.isSome_map]
    exact h2
theorem worn_mem (d : DS) (k : Int) : (if inR d k && (sec d k).w then some (Value.bool true) else none).isSome = true ↔ ∃ j ∈ aworn d.s, k = (j : Int) := by
  unfold aworn
  constructor
  · intro h
    by_cases hk : inR d k = true
    · obtain ⟨_, h1, h2, h3⟩ := sec_mem hk
      by_cases hw : (sec d k).w = true
      · exact ⟨k.toNat, List.mem_filter.2 ⟨List.mem_range.2 h1, by rw [h3]; exact hw⟩, by omega⟩
      · simp [hw] at h
    · simp [hk] at h
  · rintro ⟨j, hj, rfl⟩
    obtain ⟨h1, h2⟩ := List.mem_filter.1 hj
    have h1 := List.mem_range.1 h1
    have h2' : (sec d j).w = true := h2
    rw [h2', show inR d j = true by simp [inR, h1]]
    rfl

set_option maxHeartbeats 1000000 in
theorem pending_any (f : Ft) (d : DS) (w : World) (h : PD w f d) : Calls Tryd.prog 68 #[.pointer (some ⟨f.p, 0, none⟩)] w fun e w' => ∃ v, e = .returned v ∧ w'.ownsRow w.heap.size 3 1 v (apend d.s).length ((apend d.s).map fun (j : Nat) => encZ j) ∧ Below w.heap.size w w' := by
  obtain ⟨l, hB, _⟩ := h.head
  have c1 : w.cell? ⟨f.p, 1, none⟩ = some (.map (some f.pb)) := hB.cell rfl
  obtain ⟨m, hm, hmg⟩ := h.pend
  have hpm : (m.map (·.1)).Perm ((apend d.s).map fun (j : Nat) => (j : Int)) := keys_perm hm.nodup (fun k => by rw [hmg]; exact pend_mem d k) ((range_filter_lt _ _).imp fun hlt => Nat.ne_of_lt hlt)
  have hml : m.length ≤ 4096 := by
    have e1 := hpm.length_eq
    simp only [List.length_map] at e1
    have e2 : (apend d.s).length ≤ d.s.length := by
      have := List.length_filter_le (fun i => (d.s.getD i default).p.isSome) (List.range d.s.length)
      rw [List.length_range] at this
      exact this
    have := h.ok.most
    omega
  have hmr : ∀ p ∈ m, -9223372036854775808 ≤ p.1 ∧ p.1 ≤ 9223372036854775807 := by
    intro p hp
    have h1 : p.1 ∈ m.map (·.1) := List.mem_map.2 ⟨p, hp, rfl⟩
    rw [hpm.mem_iff] at h1
    obtain ⟨j, hj, e⟩ := List.mem_map.1 h1
    have h2 := List.mem_range.1 ((List.mem_filter.1 hj).1)
    have := h.ok.most
    omega
  obtain ⟨D0, hown, hD, hsz⟩ := IMap.owns (H := Unit) hKp hm hmr (by unfold maxLen; omega)
  have hmax : Maps.size D0 ≤ maxLen := by rw [hsz]; unfold maxLen; omega
  have hbytes : Maps.size D0 * 8 ≤ 140737488355328 := by rw [hsz]; omega
  refine (callsIn_wide (n := 6)).1 ?_
  have hbl := hown.lt
  have hseq : SeqGives Fence.wide 2 Tryd.prog 80 #[.pointer (some ⟨w.heap.size, 0, none⟩)] encZ (fun ss => ss.Perm (intKeys D0)) (Maps.size D0) (w.alloc (.cells #[.map (some f.pb)] 69)) :=
    AnyZI.keys_gives (ρ := Tryd.keysP_ren) { Tryd.keysP with } Fence.wide _ trivial rfl (by omega) w.heap.size f.pb m.length D0 _ (by simp) (by simp) (by
      obtain ⟨es, clock, hb, Ft, hs, hD⟩ := hown
      exact ⟨es, clock, (Below.heap_alloc _ _ f.pb hbl).trans hb, Ft, hs, hD⟩)
  have cK : ∀ mb W, CallsIn Fence.wide 5 Tryd.prog 75 #[.map mb] W fun e w' => e = .returned (.func (.func 80) #[] #[.pointer (some ⟨W.heap.size, 0, none⟩)]) ∧ w' = W.alloc (.cells #[.map mb] 69) := fun mb W => AnyZI.keys_in Tryd.keysP Fence.wide 5 trivial rfl mb W
  have cS := AnyZI.sorted_in Tryd.sortedA Fence.wide 5 trivial trivial trivial trivial rfl (by omega) (sortsA _) (enters_of Tryd.func79 (by kernel_rfl) rfl) 80 #[.pointer (some ⟨w.heap.size, 0, none⟩)] trivial (enters_of Tryd.func80 (by kernel_rfl) rfl) _ _ hmax hbytes _ hseq
  change CallsIn _ _ Tryd.prog 74 _ _ _ at cS
  have hfK : Fence.wide.fn 75 := trivial
  have hfS : Fence.wide.fn 74 := trivial
  refine callsIn_of_wp Tryd.func68 rfl trivial ?_ rfl
  simp only [Tryd.ntmps68, List.size_toArray, List.length_cons, List.length_nil, Nat.reduceAdd, Nat.reduceSub, Array.replicate_succ, Array.replicate_zero, List.push_toArray, List.append_toArray, List.nil_append, List.cons_append]
  gi_wp2_with (first
    | (gi_at_call 75; refine (cK _ _).mono ?_; rintro e w' ⟨rfl, rfl⟩)
    | (gi_at_call 74; refine cS.mono ?_; rintro e w' ⟨v, ss, rfl, hS, hrow, hnil, hb⟩))
  go_ret
  have hsort := sorted_keys ((hS.trans hD).trans hpm) (range_filter_lt _ _)
  have hlen : ss.length = (apend d.s).length := by
    have := ((hS.trans hD).trans hpm).length_eq
    simpa using this
  refine ⟨v, rfl, ?_, ((Below.refl _ w).alloc (Nat.le_refl _) _).trans (hb.mono (by simp))⟩
  have hr : w'.ownsRow w.heap.size 3 1 v ss.length ((ss.mergeSort fun x y => decide (x ≤ y)).map encZ) := ownsRow_base_a hrow (by simp)
  rw [hsort, hlen, List.map_map] at hr
  exact hr

end Go.Proofs.YtbmnbdkbgpajeaaDoor
end
