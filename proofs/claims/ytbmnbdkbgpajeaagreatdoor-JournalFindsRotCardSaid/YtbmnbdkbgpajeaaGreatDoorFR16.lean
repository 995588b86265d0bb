/- journal: the record that begins with some sectors. -/
import Derived.Test.YtbmnbdkbgpajeaaGreatDoorFR15
import Derived.Shelf.SlIterI.Nil
import Derived.Shelf.SortM.Plain
import Derived.Shelf.SortM.SortNone
import Derived.Shelf.SlicesE.Clone
import Derived.Shelf.Slices.Turned
import Derived.Shelf.Strings.Repeat
import Derived.Ground.GgzProg
import Derived.Ground.SlgmProg
import Derived.Ground.SlgnProg
import Derived.Test.YtbmnbdkbgpajeaaGreatDoorProg
import Derived.Test.YtbmnbdkbgpajeaaGreatDoorFR08
/- journal: the record that begins with some sectors. -/
section
namespace Go.Jn
open Go.RowKit Go.Own
def prts (l : List Prt) : List Value := l.flatMap Go.Proofs.YtbmnbdkbgpajeaaGreatDoor.prtC
theorem prts_len (l : List Prt) : (prts l).length = l.length * 5 := by
  induction l with
  | nil => rfl
  | cons x l ih => unfold prts at ih ⊢; rw [List.flatMap_cons, List.length_append, ih, List.length_cons]; simp [Go.Proofs.YtbmnbdkbgpajeaaGreatDoor.prtC]; omega
theorem prts_drop (l : List Prt) : ∀ k, (prts l).drop (k * 5) = prts (l.drop k) := by
  induction l with
  | nil => intro k; simp [prts]
  | cons x l ih =>
    intro k
    cases k with
    | zero => simp
    | succ k =>
      have e : prts (x :: l) = Go.Proofs.YtbmnbdkbgpajeaaGreatDoor.prtC x ++ prts l := rfl
      rw [e, show (k + 1) * 5 = (Go.Proofs.YtbmnbdkbgpajeaaGreatDoor.prtC x).length + k * 5 by simp [Go.Proofs.YtbmnbdkbgpajeaaGreatDoor.prtC]; omega, List.drop_length_add_append, ih k]
      rfl
theorem prts_cons (x : Prt) (l : List Prt) : prts (x :: l) = Go.Proofs.YtbmnbdkbgpajeaaGreatDoor.prtC x ++ prts l := rfl
theorem prts_cells {w : World} {b off : Nat} {l : List Prt} (h : Cells w b off (prts l)) {k : Nat} (hk : k < l.length) : Cells w b (off + k * 5) (Go.Proofs.YtbmnbdkbgpajeaaGreatDoor.prtC l[k]) := by
  have h2 := h.sub (k * 5) 5
  rw [prts_drop, List.drop_eq_getElem_cons hk, prts_cons, List.take_append_of_le_length (by simp [Go.Proofs.YtbmnbdkbgpajeaaGreatDoor.prtC]), List.take_of_length_le (by simp [Go.Proofs.YtbmnbdkbgpajeaaGreatDoor.prtC])] at h2
  exact h2
/-- is the k-th sector a part of the record that begins with f -/
def fits (f p : Prt) (k : Nat) : Bool := p.ok && decide (p.n = f.n) && decide (p.k = k) && decide (p.l + 48 * k = f.l)
def recV (l : List Prt) : List UInt8 × Nat × Bool := match recAt l with | none => ([], 0, false) | some (t, n) => (t, n, true)
theorem recV_eq {f : Prt} {r : List Prt} : recV (f :: r) = if f.ok = true ∧ f.k = 0 ∧ cntN f.l ≤ (f :: r).length ∧ ∀ k, k < cntN f.l → fits f ((f :: r).getD k prt0) k = true then ((((f :: r).take (cntN f.l)).map Prt.b).flatten, cntN f.l, true) else ([], 0, false) := by
  unfold recV recAt
  have e : ∀ c : Bool, ∀ (a : List UInt8 × Nat), (match (if c = true then some a else none) with | none => ([], 0, false) | some (t, n) => (t, n, true)) = if c = true then (a.1, a.2, true) else (([] : List UInt8), 0, false) := fun c a => by cases c <;> rfl
  rw [e]
  congr 1
  rw [Bool.and_eq_true, Bool.and_eq_true, Bool.and_eq_true, decide_eq_true_eq, decide_eq_true_eq, List.all_eq_true]
  unfold fits
  simp only [List.mem_range, eq_iff_iff]
  constructor
  · rintro ⟨⟨⟨a, b⟩, c⟩, d⟩; exact ⟨a, b, c, d⟩
  · rintro ⟨a, b, c, d⟩; exact ⟨⟨⟨a, b⟩, c⟩, d⟩
theorem recV_no {f : Prt} {r : List Prt} {k : Nat} (hk : k < cntN f.l) (h : fits f ((f :: r).getD k prt0) k = false) : recV (f :: r) = ([], 0, false) := by
  rw [recV_eq, if_neg]
  rintro ⟨_, _, _, h2⟩
  rw [h2 k hk] at h; cases h
def txtK (l : List Prt) (k : Nat) : List UInt8 := ((l.take k).map Prt.b).flatten
theorem txtK_len {l : List Prt} (h : ∀ p ∈ l, p.b.length ≤ 48) : ∀ k, k ≤ l.length → (txtK l k).length ≤ 48 * k
  | 0, _ => by simp [txtK]
  | k + 1, hk => by
    have h1 := txtK_len h k (by omega)
    unfold txtK at h1 ⊢
    rw [List.take_succ_eq_append_getElem (by omega), List.map_append, List.flatten_append, List.map_singleton, List.flatten_singleton, List.length_append]
    have := h _ (List.getElem_mem (show k < l.length by omega))
    omega
theorem txtK_succ {l : List Prt} {k : Nat} (h : k < l.length) : txtK l (k + 1) = txtK l k ++ l[k].b := by
  unfold txtK
  rw [List.take_succ_eq_append_getElem h, List.map_append, List.flatten_append, List.map_singleton, List.flatten_singleton]
end Go.Jn
namespace Go.Proofs.YtbmnbdkbgpajeaaGreatDoor
open Go.RowKit Go.Own Go.Jn Go.Disk Go.BigFrame Go.Sha
attribute [local go_sem] setCell_twice str_size op_str_eql op_str_neq str_append
def recR (x : List UInt8 × Nat × Bool) : Value := .tuple #[str x.1, .int .i64 x.2.1, .bool x.2.2]
set_option maxRecDepth 100000 in
set_option maxHeartbeats 2000000 in
theorem record_any (f : Prt) (r : List Prt) (b off cap : Nat) (w : World) (hC : Cells w b off (prts (f :: r))) (hb : b < w.heap.size) (hcap : (f :: r).length ≤ cap ∧ cap ≤ maxLen) (hf : f.l ≤ 8000) (hfk : f.k < 65536) (hn : f.n ≤ 4096)
    (hr : ∀ p ∈ r, p.l < 65536 ∧ p.k < 65536 ∧ p.n ≤ 4096) (hbl : ∀ p ∈ f :: r, p.b.length ≤ 48) :
    Calls Tryz.prog 50 #[.slice (some ⟨b, off, none⟩) (f :: r).length cap] w fun e w' => e = .returned (recR (recV (f :: r))) ∧ Below w.heap.size w w' := by
  have hcap2 := hcap.2
  unfold maxLen at hcap2
  have hc0 : Cells w b off (prtC f) := by have := prts_cells hC (k := 0) (by simp); simpa using this
  obtain ⟨n, hnl⟩ : ∃ n, n = (f :: r).length := ⟨_, rfl⟩
  have hn1 : 1 ≤ n := by rw [hnl]; simp
  have hpos : (0 : Int) < n := by omega
  rw [← hnl] at hcap ⊢
  have HNL := Lib.hid hnl; clear hnl
  have HR := Lib.hid hr; clear hr
  have HBL := Lib.hid hbl; clear hbl
  have HC := Lib.hid hC; clear hC
  have hcI := cntI_nat f.l
  have hcp := cntN_pos hf
  obtain ⟨c, hc⟩ : ∃ c, c = cntN f.l := ⟨_, rfl⟩
  rw [← hc] at hcI hcp
  have HCN := Lib.hid hc; clear hc
  go_enter Tryz.func50, Tryz.ntmps50
  go_wp2_with (first | (refine wpList_load_agg (prtC f) hc0 rfl rfl rfl aggPart infoPart ?_) | (refine wpList_store_blk (ty := 94) (n := 5) (vs := prtC f) (Blk.new _ _ 94) rfl rfl rfl rfl rfl infoPart rfl (by simp) (prtC_one _) ?_))
  intro w1 k1 o1
  have k1' : Blk w1 w.heap.size (prtC f) 94 := by simpa using k1
  have b1 : Below w.heap.size w w1 := o1.below (alloc_below _ _) (Nat.le_refl _)
  clear k1 o1 hc0
  have q0 : w1.cell? ⟨w.heap.size, 0, none⟩ = some (.int .i64 f.n) := k1'.cell rfl
  have q1 : w1.cell? ⟨w.heap.size, 1, none⟩ = some (.int .i64 f.k) := k1'.cell rfl
  have q2 : w1.cell? ⟨w.heap.size, 2, none⟩ = some (.int .i64 f.l) := k1'.cell rfl
  have q4 : w1.cell? ⟨w.heap.size, 4, none⟩ = some (.bool f.ok) := k1'.cell rfl
  have lF : w.heap.size < w1.heap.size := k1'.lt
  obtain ⟨F, hF⟩ : ∃ F, F = w.heap.size := ⟨_, rfl⟩
  rw [← hF] at k1' q0 q1 q2 q4 lF b1 hb ⊢
  have HF := Lib.hid hF; clear hF
  have HB1 := Lib.hid b1; clear b1
  have HK1 := Lib.hid k1'; clear k1'
  have BAD : ∀ (l : List Prt) (W : World), recV l = ([], 0, false) → Below F w W → (Ending.returned (.tuple #[.string ⟨#[]⟩, .int .i64 0, .bool false]) = .returned (recR (recV l)) ∧ Below w.heap.size w W) := fun l W h1 h2 => ⟨by rw [h1]; rfl, by rw [← HF.out]; exact h2⟩
  have HBAD := Lib.hid BAD; clear BAD
  cases hok : f.ok with
  | false =>
    have hv : recV (f :: r) = ([], 0, false) := by rw [recV_eq, if_neg]; rintro ⟨h, _⟩; rw [hok] at h; cases h
    rw [hok] at q4
    have HV := Lib.hid hv; clear hv hok
    go_wp2_with (go_at_call 16; refine (count_any _ _).mono ?_; rintro e w' ⟨rfl, rfl⟩)
    go_ret3
    exact HBAD.out _ _ HV.out HB1.out
  | true =>
  rw [hok] at q4
  have HOK := Lib.hid hok; clear hok
  by_cases hk0 : ¬ f.k = 0
  · have hv : recV (f :: r) = ([], 0, false) := by rw [recV_eq, if_neg]; rintro ⟨_, h, _⟩; exact hk0 h
    have d1 : ((f.k : Int) != 0) = true := by rw [bne_iff_ne]; omega
    have HV := Lib.hid hv; clear hv
    have HK0 := Lib.hid hk0; clear hk0
    go_wp2_with (go_at_call 16; refine (count_any _ _).mono ?_; rintro e w' ⟨rfl, rfl⟩)
    go_ret3
    exact HBAD.out _ _ HV.out HB1.out
  replace hk0 : f.k = 0 := Decidable.not_not.1 hk0
  have d1 : ((f.k : Int) != 0) = false := by rw [bne_eq_false_iff_eq]; omega
  have HK0 := Lib.hid hk0; clear hk0
  by_cases hcn : n < c
  · have hv : recV (f :: r) = ([], 0, false) := by rw [recV_eq, if_neg]; rintro ⟨_, _, h, _⟩; rw [← HNL.out, ← HCN.out] at h; omega
    have d2 : ((n : Int) < (c : Int)) = True := eq_true (by omega)
    have d2' : (n < c) = True := eq_true hcn
    have HV := Lib.hid hv; clear hv hcn
    go_wp2_with (go_at_call 16; refine (count_any _ _).mono ?_; rintro e w' ⟨rfl, rfl⟩)
    go_ret3
    exact HBAD.out _ _ HV.out HB1.out
  have d2 : ((n : Int) < (c : Int)) = False := eq_false (by omega)
  have d2' : (n < c) = False := eq_false hcn
  go_wp2_with (go_at_call 16; refine (count_any _ _).mono ?_; rintro e wz ⟨rfl, rfl⟩)
  clear q0 q1 q2 q4 d1 d2 d2' hcI hpos
  have hcn' : c ≤ n := by omega
  clear hcn
  obtain ⟨W1, hW1⟩ : ∃ W1 : World, W1 = wz := ⟨_, rfl⟩
  have lF1 : F < W1.heap.size := by rw [hW1]; exact lF
  have lb1 : b < W1.heap.size := by have := HB1.out.size; omega
  rw [← hW1] at HB1 HK1
  clear lF
  have HW1 := Lib.hid hW1; clear hW1
  go_loopw [7, 34] (fun tx i wr => ∃ k : Nat, k ≤ c ∧ i = .int .i64 k ∧ tx = str (txtK (f :: r) k) ∧ Hid (∀ j, j < k → fits f ((f :: r).getD j prt0) j = true) ∧ Below W1.heap.size W1 wr) (fun _ i _ => c - (jInt i).toNat)
  case atStart => exact ⟨0, Nat.zero_le _, rfl, rfl, Lib.hid (fun j hj => by omega), by rw [HW1.out]; exact Below.refl _ _⟩
  case round =>
    obtain ⟨k, hk, rfl, rfl, hfit, hbw⟩ := hrel
    have hBw : Below F w wr := HB1.out.trans (hbw.mono (by omega))
    by_cases hlt : k < c
    · have hkn : k < (f :: r).length := by rw [← HNL.out]; omega
      have hpc := prts_cells (HC.out.below hBw hb) hkn
      obtain ⟨p, hp⟩ : ∃ p, p = (f :: r)[k] := ⟨_, rfl⟩
      have hpd : (f :: r).getD k prt0 = p := by rw [List.getD_eq_getElem?_getD, List.getElem?_eq_getElem hkn, hp]; rfl
      have hpb : p.l < 65536 ∧ p.k < 65536 ∧ p.n ≤ 4096 := by
        have hm : p ∈ f :: r := by rw [hp]; exact List.getElem_mem hkn
        rcases List.mem_cons.1 hm with rfl | hm
        · exact ⟨by omega, hfk, hn⟩
        · exact HR.out p hm
      have hpbl : p.b.length ≤ 48 := by rw [hp]; exact HBL.out _ (List.getElem_mem hkn)
      have htl := txtK_len HBL.out k (Nat.le_of_lt hkn)
      have HTX : Hid (txtK (f :: r) (k + 1) = txtK (f :: r) k ++ p.b) := Lib.hid (by rw [txtK_succ hkn, hp])
      rw [← hp] at hpc
      have HP := Lib.hid hp; clear hp
      have HPD := Lib.hid hpd; clear hpd
      obtain ⟨tx, htx⟩ : ∃ tx, tx = txtK (f :: r) k := ⟨_, rfl⟩
      rw [← htx] at HTX htl ⊢
      have hcat : tx.length + p.b.length ≤ 9223372036854775807 := by omega
      have hcat2 : (tx.length : Int) + (p.b.length : Int) ≤ 9223372036854775807 := by omega
      have HTE := Lib.hid htx; clear htx
      have kF := HK1.out.below hbw lF1
      have q0 : wr.cell? ⟨F, 0, none⟩ = some (.int .i64 f.n) := kF.cell rfl
      have q2 : wr.cell? ⟨F, 2, none⟩ = some (.int .i64 f.l) := kF.cell rfl
      have lFr : F < wr.heap.size := kF.lt
      have HKF := Lib.hid kF; clear kF
      have hlc : (k : Int) < c := by omega
      have hkn2 : (k : Int) < n := by omega
      have HBW := Lib.hid hbw; clear hbw
      have HBF := Lib.hid hBw; clear hBw
      go_wp2_with (first | (refine wpList_load_agg (prtC p) hpc rfl rfl rfl aggPart infoPart ?_) | (refine wpList_store_blk (ty := 94) (n := 5) (vs := prtC p) (Blk.new _ _ 94) rfl rfl rfl rfl rfl infoPart rfl (by simp) (prtC_one _) ?_))
      intro w2 k2 o2
      have k2' : Blk w2 wr.heap.size (prtC p) 94 := by simpa using k2
      have b2 : Below wr.heap.size wr w2 := o2.below (alloc_below _ _) (Nat.le_refl _)
      have p0 : w2.cell? ⟨wr.heap.size, 0, none⟩ = some (.int .i64 p.n) := k2'.cell rfl
      have p1 : w2.cell? ⟨wr.heap.size, 1, none⟩ = some (.int .i64 p.k) := k2'.cell rfl
      have p2 : w2.cell? ⟨wr.heap.size, 2, none⟩ = some (.int .i64 p.l) := k2'.cell rfl
      have p3 : w2.cell? ⟨wr.heap.size, 3, none⟩ = some (str p.b) := k2'.cell rfl
      have p4 : w2.cell? ⟨wr.heap.size, 4, none⟩ = some (.bool p.ok) := k2'.cell rfl
      have f0 : w2.cell? ⟨F, 0, none⟩ = some (.int .i64 f.n) := (b2.cell (p := ⟨F, 0, none⟩) lFr).trans q0
      have f2 : w2.cell? ⟨F, 2, none⟩ = some (.int .i64 f.l) := (b2.cell (p := ⟨F, 2, none⟩) lFr).trans q2
      have B2 := Lib.hid (HBF.out.trans (b2.mono (by omega)))
      have B3 := Lib.hid (HBW.out.trans (b2.mono HBW.out.size))
      obtain ⟨R, hR⟩ : ∃ R, R = wr.heap.size := ⟨_, rfl⟩
      rw [← hR] at p0 p1 p2 p3 p4 ⊢
      clear k2 k2' o2 b2 q0 q2 hR lFr
      cases hpo : p.ok with
      | false =>
        rw [hpo] at p4
        have hv : recV (f :: r) = ([], 0, false) := recV_no (k := k) (by rw [← HCN.out]; omega) (by rw [HPD.out]; unfold fits; rw [hpo]; rfl)
        have HV := Lib.hid hv; clear hv hpo
        go_wp2
        go_ret3
        exact HBAD.out _ _ HV.out B2.out
      | true =>
      rw [hpo] at p4
      have HPO := Lib.hid hpo; clear hpo
      by_cases e2 : ¬ p.n = f.n
      · have d2 : ((p.n : Int) != (f.n : Int)) = true := by rw [bne_iff_ne]; omega
        have hv : recV (f :: r) = ([], 0, false) := recV_no (k := k) (by rw [← HCN.out]; omega) (by rw [HPD.out]; unfold fits; rw [decide_eq_false e2]; simp)
        have HV := Lib.hid hv; clear hv e2
        go_wp2
        go_ret3
        exact HBAD.out _ _ HV.out B2.out
      replace e2 : p.n = f.n := Decidable.not_not.1 e2
      have d2 : ((p.n : Int) != (f.n : Int)) = false := by rw [bne_eq_false_iff_eq]; omega
      have E2 := Lib.hid e2; clear e2
      by_cases e3 : ¬ p.k = k
      · have d3 : ((p.k : Int) != (k : Int)) = true := by rw [bne_iff_ne]; omega
        have hv : recV (f :: r) = ([], 0, false) := recV_no (k := k) (by rw [← HCN.out]; omega) (by rw [HPD.out]; unfold fits; rw [decide_eq_false e3]; simp)
        have HV := Lib.hid hv; clear hv e3
        go_wp2
        go_ret3
        exact HBAD.out _ _ HV.out B2.out
      replace e3 : p.k = k := Decidable.not_not.1 e3
      have d3 : ((p.k : Int) != (k : Int)) = false := by rw [bne_eq_false_iff_eq]; omega
      have E3 := Lib.hid e3; clear e3
      by_cases e4 : ¬ p.l + 48 * k = f.l
      · have d4 : ((p.l : Int) != (f.l : Int) - 48 * (k : Int)) = true := by rw [bne_iff_ne]; omega
        have hv : recV (f :: r) = ([], 0, false) := recV_no (k := k) (by rw [← HCN.out]; omega) (by rw [HPD.out]; unfold fits; rw [decide_eq_false e4]; simp)
        have HV := Lib.hid hv; clear hv e4
        go_wp2
        go_ret3
        exact HBAD.out _ _ HV.out B2.out
      replace e4 : p.l + 48 * k = f.l := Decidable.not_not.1 e4
      have d4 : ((p.l : Int) != (f.l : Int) - 48 * (k : Int)) = false := by rw [bne_eq_false_iff_eq]; omega
      have hgo : fits f p k = true := by unfold fits; rw [HPO.out, decide_eq_true E2.out, decide_eq_true E3.out, decide_eq_true e4]; rfl
      have HGO := Lib.hid hgo; clear hgo
      have E4 := Lib.hid e4; clear e4
      go_wp2
      go_roundw
      case rel =>
        refine ⟨k + 1, by omega, by go_num, by rw [HTX.out], Lib.hid (fun j hj => ?_), B3.out⟩
        by_cases e : j < k
        · exact hfit.out j e
        · obtain rfl : j = k := by omega
          rw [HPD.out]; exact HGO.out
      case measure => simp [jInt]; omega
    · obtain rfl : k = c := by omega
      have hv : recV (f :: r) = (txtK (f :: r) k, k, true) := by
        rw [recV_eq, if_pos ⟨HOK.out, HK0.out, by rw [← HNL.out, ← HCN.out]; exact hcn', fun j hj => hfit.out j (by rw [HCN.out]; exact hj)⟩, ← HCN.out]
        rfl
      have HV := Lib.hid hv; clear hv
      have HBF := Lib.hid hBw; clear hBw hbw
      go_wp2
      go_ret3
      refine ⟨by rw [HV.out]; rfl, ?_⟩
      rw [← HF.out]
      exact HBF.out
end Go.Proofs.YtbmnbdkbgpajeaaGreatDoor
end
/-
  DERIVED: THE SHELF's CONTRACTS AT THIS DUMP, IN PLAIN WORDS (tools/lay-plain.mjs out of 'YtbmnbdkbgpajeaaGreatDoorShA.lean', which tools/lay-shelf.mjs wrote): THE SAME DECLARATIONS UNDER THE SAME NAMES: 'import', 'namespace', 'open', 'def', 'theorem' AND NOTHING ELSE: no command of the shelf's: FOR A HAND-IN. Each laying: the table of numbers ('.._ren') and one theorem, a field a fact of the dump's own or the kernel's comparison; each contract: ONE APPLICATION.
-/
section
namespace Go.Proofs
open Go.Shelf
def Tryz.keysP_ren : Go.Shelf.Ren := ⟨fun | 7 => 84 | 10 => 99 | n => n, fun | 23 => 75 | 26 => 3 | 3 => 86 | 28 => 135 | 0 => 0 | 27 => 134 | 33 => 87 | 4 => 4 | n => n, fun | n => n⟩
theorem Tryz.keysP : Go.Proofs.SlLaysZI.n7 Tryz.prog Tryz.keysP_ren := {
  mixed := by kernel_rfl
  f7 := ⟨Tryz.f84.name, by decide, Tryz.func84.trans (congrArg some (by kernel_rfl))⟩
  f10 := ⟨Tryz.f99.name, by decide, Tryz.func99.trans (congrArg some (by kernel_rfl))⟩
  t0 := Tryz.underlying0
  a0 := Tryz.isAgg0
  z0 := Tryz.sizeOf0
  v0 := Tryz.zeroValue0
  t4 := Tryz.underlying4
  a4 := Tryz.isAgg4
  z4 := Tryz.sizeOf4
  v4 := Tryz.zeroValue4
  t23 := Tryz.underlying75
  a23 := Tryz.isAgg75
  z23 := Tryz.sizeOf75
  v23 := Tryz.zeroValue75
  t26 := Tryz.underlying3
  a26 := Tryz.isAgg3
  z26 := Tryz.sizeOf3
  v26 := Tryz.zeroValue3
  t27 := Tryz.underlying134
  a27 := Tryz.isAgg134
  z27 := Tryz.sizeOf134
  v27 := Tryz.zeroValue134
  t28 := Tryz.underlying135
  a28 := Tryz.isAgg135
  z28 := Tryz.sizeOf135
  v28 := Tryz.zeroValue135
  t33 := Tryz.underlying87
  a33 := Tryz.isAgg87
  z33 := Tryz.sizeOf87
  v33 := Tryz.zeroValue87 }
def Tryz.sortedA_ren : Go.Shelf.Ren := ⟨fun | 6 => 83 | 8 => 97 | 9 => 98 | 11 => 107 | 13 => 109 | 12 => 108 | 23 => 121 | 24 => 122 | 14 => 112 | 15 => 113 | 16 => 114 | 17 => 115 | 18 => 116 | 19 => 117 | 20 => 118 | 21 => 119 | 22 => 120 | 25 => 124 | 26 => 125 | 27 => 126 | 28 => 127 | 29 => 128 | 30 => 129 | 31 => 130 | n => n, fun | 26 => 3 | 28 => 135 | 24 => 51 | 0 => 0 | 3 => 3 | 37 => 47 | 48 => 137 | 50 => 140 | 4 => 4 | 40 => 172 | 39 => 171 | 45 => 177 | 5 => 5 | 9 => 9 | 51 => 181 | 55 => 185 | 57 => 187 | 58 => 188 | 33 => 87 | n => n, fun | n => n⟩
theorem Tryz.sortedA : Go.Proofs.SlLaysZI.n6 Tryz.prog Tryz.sortedA_ren := {
  mixed := by kernel_rfl
  f6 := ⟨Tryz.f83.name, by decide, Tryz.func83.trans (congrArg some (by kernel_rfl))⟩
  f8 := ⟨Tryz.f97.name, by decide, Tryz.func97.trans (congrArg some (by kernel_rfl))⟩
  f11 := ⟨Tryz.f107.name, by decide, Tryz.func107.trans (congrArg some (by kernel_rfl))⟩
  t0 := Tryz.underlying0
  a0 := Tryz.isAgg0
  z0 := Tryz.sizeOf0
  v0 := Tryz.zeroValue0
  t24 := Tryz.underlying51
  a24 := Tryz.isAgg51
  z24 := Tryz.sizeOf51
  v24 := Tryz.zeroValue51
  t26 := Tryz.underlying3
  a26 := Tryz.isAgg3
  z26 := Tryz.sizeOf3
  v26 := Tryz.zeroValue3
  t28 := Tryz.underlying135
  a28 := Tryz.isAgg135
  z28 := Tryz.sizeOf135
  v28 := Tryz.zeroValue135
  i26 := by kernel_rfl }
def Tryz.sortA_ren : Go.Shelf.Ren := ⟨fun | 5 => 98 | 8 => 109 | 7 => 108 | 19 => 121 | 20 => 122 | 10 => 112 | 11 => 113 | 12 => 114 | 13 => 115 | 14 => 116 | 15 => 117 | 16 => 118 | 17 => 119 | 18 => 120 | 30 => 124 | 31 => 125 | 32 => 126 | 33 => 127 | 34 => 128 | 35 => 129 | 40 => 130 | n => n, fun | 23 => 51 | 25 => 3 | 3 => 3 | 32 => 47 | 22 => 51 | 0 => 0 | 44 => 137 | 46 => 140 | 4 => 4 | 36 => 172 | 35 => 171 | 41 => 177 | 5 => 5 | 9 => 9 | 53 => 181 | 57 => 185 | 63 => 187 | 64 => 188 | n => n, fun | n => n⟩
theorem Tryz.sortA : Go.Proofs.SlLaysM.n5 Tryz.prog Tryz.sortA_ren := {
  mixed := by kernel_rfl
  f5 := ⟨Tryz.f98.name, by decide, Tryz.func98.trans (congrArg some (by kernel_rfl))⟩
  f7 := ⟨Tryz.f108.name, by decide, Tryz.func108.trans (congrArg some (by kernel_rfl))⟩
  f8 := Tryz.func109.trans (congrArg some (by kernel_rfl))
  f10 := ⟨Tryz.f112.name, by decide, Tryz.func112.trans (congrArg some (by kernel_rfl))⟩
  f11 := ⟨Tryz.f113.name, by decide, Tryz.func113.trans (congrArg some (by kernel_rfl))⟩
  f12 := ⟨Tryz.f114.name, by decide, Tryz.func114.trans (congrArg some (by kernel_rfl))⟩
  f13 := ⟨Tryz.f115.name, by decide, Tryz.func115.trans (congrArg some (by kernel_rfl))⟩
  f14 := ⟨Tryz.f116.name, by decide, Tryz.func116.trans (congrArg some (by kernel_rfl))⟩
  f15 := ⟨Tryz.f117.name, by decide, Tryz.func117.trans (congrArg some (by kernel_rfl))⟩
  f16 := ⟨Tryz.f118.name, by decide, Tryz.func118.trans (congrArg some (by kernel_rfl))⟩
  f17 := ⟨Tryz.f119.name, by decide, Tryz.func119.trans (congrArg some (by kernel_rfl))⟩
  f18 := ⟨Tryz.f120.name, by decide, Tryz.func120.trans (congrArg some (by kernel_rfl))⟩
  f19 := Tryz.func121.trans (congrArg some (by kernel_rfl))
  f20 := Tryz.func122.trans (congrArg some (by kernel_rfl))
  f30 := ⟨Tryz.f124.name, by decide, Tryz.func124.trans (congrArg some (by kernel_rfl))⟩
  f31 := Tryz.func125.trans (congrArg some (by kernel_rfl))
  f32 := Tryz.func126.trans (congrArg some (by kernel_rfl))
  f33 := ⟨Tryz.f127.name, by decide, Tryz.func127.trans (congrArg some (by kernel_rfl))⟩
  f34 := ⟨Tryz.f128.name, by decide, Tryz.func128.trans (congrArg some (by kernel_rfl))⟩
  f35 := ⟨Tryz.f129.name, by decide, Tryz.func129.trans (congrArg some (by kernel_rfl))⟩
  f40 := ⟨Tryz.f130.name, by decide, Tryz.func130.trans (congrArg some (by kernel_rfl))⟩
  t0 := Tryz.underlying0
  a0 := Tryz.isAgg0
  z0 := Tryz.sizeOf0
  v0 := Tryz.zeroValue0
  t3 := Tryz.underlying3
  a3 := Tryz.isAgg3
  z3 := Tryz.sizeOf3
  v3 := Tryz.zeroValue3
  t4 := Tryz.underlying4
  a4 := Tryz.isAgg4
  z4 := Tryz.sizeOf4
  v4 := Tryz.zeroValue4
  t5 := Tryz.underlying5
  a5 := Tryz.isAgg5
  z5 := Tryz.sizeOf5
  v5 := Tryz.zeroValue5
  t9 := Tryz.underlying9
  a9 := Tryz.isAgg9
  z9 := Tryz.sizeOf9
  v9 := Tryz.zeroValue9
  t22 := Tryz.underlying51
  a22 := Tryz.isAgg51
  z22 := Tryz.sizeOf51
  v22 := Tryz.zeroValue51
  t23 := Tryz.underlying51
  a23 := Tryz.isAgg51
  z23 := Tryz.sizeOf51
  v23 := Tryz.zeroValue51
  t25 := Tryz.underlying3
  a25 := Tryz.isAgg3
  z25 := Tryz.sizeOf3
  v25 := Tryz.zeroValue3
  t32 := Tryz.underlying47
  a32 := Tryz.isAgg47
  z32 := Tryz.sizeOf47
  v32 := Tryz.zeroValue47
  t35 := Tryz.underlying171
  a35 := Tryz.isAgg171
  z35 := Tryz.sizeOf171
  v35 := Tryz.zeroValue171
  t36 := Tryz.underlying172
  a36 := Tryz.isAgg172
  z36 := Tryz.sizeOf172
  v36 := Tryz.zeroValue172
  t41 := Tryz.underlying177
  a41 := Tryz.isAgg177
  z41 := Tryz.sizeOf177
  v41 := Tryz.zeroValue177
  t44 := Tryz.underlying137
  a44 := Tryz.isAgg137
  z44 := Tryz.sizeOf137
  v44 := Tryz.zeroValue137
  t46 := Tryz.underlying140
  a46 := Tryz.isAgg140
  z46 := Tryz.sizeOf140
  v46 := Tryz.zeroValue140
  t53 := Tryz.underlying181
  a53 := Tryz.isAgg181
  z53 := Tryz.sizeOf181
  v53 := Tryz.zeroValue181
  t57 := Tryz.underlying185
  a57 := Tryz.isAgg185
  z57 := Tryz.sizeOf185
  v57 := Tryz.zeroValue185
  t63 := Tryz.underlying187
  a63 := Tryz.isAgg187
  z63 := Tryz.sizeOf187
  v63 := Tryz.zeroValue187
  t64 := Tryz.underlying188
  a64 := Tryz.isAgg188
  z64 := Tryz.sizeOf188
  v64 := Tryz.zeroValue188 }
def Tryz.cloneI_ren : Go.Shelf.Ren := ⟨fun | 41 => 62 | n => n, fun | 22 => 51 | 23 => 3 | 4 => 4 | n => n, fun | n => n⟩
theorem Tryz.cloneI : Go.Proofs.SlLaysE0.n41 Tryz.prog Tryz.cloneI_ren := {
  mixed := by kernel_rfl
  f41 := ⟨Tryz.f62.name, by decide, Tryz.func62.trans (congrArg some (by kernel_rfl))⟩
  t4 := Tryz.underlying4
  a4 := Tryz.isAgg4
  z4 := Tryz.sizeOf4
  v4 := Tryz.zeroValue4
  t22 := Tryz.underlying51
  a22 := Tryz.isAgg51
  z22 := Tryz.sizeOf51
  v22 := Tryz.zeroValue51 }
def Tryz.cloneS_ren : Go.Shelf.Ren := ⟨fun | 41 => 61 | n => n, fun | 22 => 22 | 23 => 9 | 4 => 4 | n => n, fun | n => n⟩
theorem Tryz.cloneS : Go.Proofs.SlLaysE0.n41 Tryz.prog Tryz.cloneS_ren := {
  mixed := by kernel_rfl
  f41 := ⟨Tryz.f61.name, by decide, Tryz.func61.trans (congrArg some (by kernel_rfl))⟩
  t4 := Tryz.underlying4
  a4 := Tryz.isAgg4
  z4 := Tryz.sizeOf4
  v4 := Tryz.zeroValue4
  t22 := Tryz.underlying22
  a22 := Tryz.isAgg22
  z22 := Tryz.sizeOf22
  v22 := Tryz.zeroValue22 }
def Tryz.lays107_ren : Go.Shelf.Ren := ⟨fun | 107 => 51 | 108 => 78 | n => n, fun | 28 => 51 | 3 => 3 | 4 => 4 | 0 => 0 | n => n, fun | n => n⟩
theorem Tryz.lays107 : Go.Proofs.Lays.n107 Tryz.prog Tryz.lays107_ren := {
  mixed := by kernel_rfl
  f107 := Tryz.func51.trans (congrArg some (by kernel_rfl))
  f108 := Tryz.func78.trans (congrArg some (by kernel_rfl))
  t0 := Tryz.underlying0
  a0 := Tryz.isAgg0
  z0 := Tryz.sizeOf0
  v0 := Tryz.zeroValue0
  t3 := Tryz.underlying3
  a3 := Tryz.isAgg3
  z3 := Tryz.sizeOf3
  v3 := Tryz.zeroValue3
  t4 := Tryz.underlying4
  a4 := Tryz.isAgg4
  z4 := Tryz.sizeOf4
  v4 := Tryz.zeroValue4
  t28 := Tryz.underlying51
  a28 := Tryz.isAgg51
  z28 := Tryz.sizeOf51
  v28 := Tryz.zeroValue51 }
def Tryz.lays105_ren : Go.Shelf.Ren := ⟨fun | 105 => 39 | 212 => 68 | 99 => 69 | 165 => 70 | 166 => 71 | 170 => 72 | 169 => 73 | 263 => 85 | 264 => 86 | 206 => 87 | 240 => 88 | 241 => 89 | 276 => 100 | 277 => 101 | n => n, fun | 9 => 9 | 3 => 3 | 4 => 4 | 20 => 20 | 0 => 0 | 46 => 47 | 109 => 110 | 5 => 5 | 72 => 115 | 76 => 118 | 51 => 137 | 146 => 138 | 53 => 140 | 148 => 141 | 70 => 113 | 37 => 81 | 75 => 117 | 127 => 143 | 164 => 155 | 80 => 120 | n => n, fun | n => n⟩
theorem Tryz.lays105 : Go.Proofs.Lays.n105 Tryz.prog Tryz.lays105_ren := {
  mixed := by kernel_rfl
  f99 := Tryz.func69.trans (congrArg some (by kernel_rfl))
  f105 := Tryz.func39.trans (congrArg some (by kernel_rfl))
  f165 := Tryz.func70.trans (congrArg some (by kernel_rfl))
  f166 := Tryz.func71.trans (congrArg some (by kernel_rfl))
  f169 := Tryz.func73.trans (congrArg some (by kernel_rfl))
  f170 := Tryz.func72.trans (congrArg some (by kernel_rfl))
  f206 := Tryz.func87.trans (congrArg some (by kernel_rfl))
  f212 := Tryz.func68.trans (congrArg some (by kernel_rfl))
  f240 := Tryz.func88.trans (congrArg some (by kernel_rfl))
  f241 := Tryz.func89.trans (congrArg some (by kernel_rfl))
  f263 := Tryz.func85.trans (congrArg some (by kernel_rfl))
  f264 := Tryz.func86.trans (congrArg some (by kernel_rfl))
  f276 := Tryz.func100.trans (congrArg some (by kernel_rfl))
  f277 := Tryz.func101.trans (congrArg some (by kernel_rfl))
  t0 := Tryz.underlying0
  a0 := Tryz.isAgg0
  z0 := Tryz.sizeOf0
  v0 := Tryz.zeroValue0
  t3 := Tryz.underlying3
  a3 := Tryz.isAgg3
  z3 := Tryz.sizeOf3
  v3 := Tryz.zeroValue3
  t4 := Tryz.underlying4
  a4 := Tryz.isAgg4
  z4 := Tryz.sizeOf4
  v4 := Tryz.zeroValue4
  t5 := Tryz.underlying5
  a5 := Tryz.isAgg5
  z5 := Tryz.sizeOf5
  v5 := Tryz.zeroValue5
  t9 := Tryz.underlying9
  a9 := Tryz.isAgg9
  z9 := Tryz.sizeOf9
  v9 := Tryz.zeroValue9
  t20 := Tryz.underlying20
  a20 := Tryz.isAgg20
  z20 := Tryz.sizeOf20
  v20 := Tryz.zeroValue20
  t37 := Tryz.underlying81
  a37 := Tryz.isAgg81
  z37 := Tryz.sizeOf81
  v37 := Tryz.zeroValue81
  t46 := Tryz.underlying47
  a46 := Tryz.isAgg47
  z46 := Tryz.sizeOf47
  v46 := Tryz.zeroValue47
  t51 := Tryz.underlying137
  a51 := Tryz.isAgg137
  z51 := Tryz.sizeOf137
  v51 := Tryz.zeroValue137
  t53 := Tryz.underlying140
  a53 := Tryz.isAgg140
  z53 := Tryz.sizeOf140
  v53 := Tryz.zeroValue140
  t70 := Tryz.underlying113
  a70 := Tryz.isAgg113
  z70 := Tryz.sizeOf113
  v70 := Tryz.zeroValue113
  t72 := Tryz.underlying115
  a72 := Tryz.isAgg115
  z72 := Tryz.sizeOf115
  v72 := Tryz.zeroValue115
  t75 := Tryz.underlying117
  a75 := Tryz.isAgg117
  z75 := Tryz.sizeOf117
  v75 := Tryz.zeroValue117
  t76 := Tryz.underlying118
  a76 := Tryz.isAgg118
  z76 := Tryz.sizeOf118
  v76 := Tryz.zeroValue118
  t109 := Tryz.underlying110
  a109 := Tryz.isAgg110
  z109 := Tryz.sizeOf110
  v109 := Tryz.zeroValue110
  t127 := Tryz.underlying143
  a127 := Tryz.isAgg143
  z127 := Tryz.sizeOf143
  v127 := Tryz.zeroValue143
  t146 := Tryz.underlying138
  a146 := Tryz.isAgg138
  z146 := Tryz.sizeOf138
  v146 := Tryz.zeroValue138
  t148 := Tryz.underlying141
  a148 := Tryz.isAgg141
  z148 := Tryz.sizeOf141
  v148 := Tryz.zeroValue141
  t164 := Tryz.underlying155
  a164 := Tryz.isAgg155
  z164 := Tryz.sizeOf155
  v164 := Tryz.zeroValue155 }
theorem Tryz.Builder_Extra_105 : Builder.Extra Tryz.prog Tryz.lays105_ren := {
  sizeBuilder := by kernel_rfl
  liesBuilder := by kernel_rfl
  t5 := Tryz.underlying5
  a5 := Tryz.isAgg5
  z5 := Tryz.sizeOf5
  v5 := Tryz.zeroValue5
  infoByte := by kernel_rfl
  cellsByte := by kernel_rfl
  sizeByte := by kernel_rfl
  neB5 := by decide }
end Go.Proofs
end
/- Pending and Worn of the program's disk: plain laws on the keys. -/
section
namespace Go.Proofs.YtbmnbdkbgpajeaaGreatDoor
open Go.RowKit Go.Own Go.Disk Go.Maps
theorem mget_mem (m : List (Int × Value)) (k : Int) : (mget m k).isSome = true ↔ k ∈ m.map (·.1) := by
  unfold mget
  rw [Option.isSome_map, List.find?_isSome]
  constructor
  · rintro ⟨p, hp, e⟩
    exact List.mem_map.2 ⟨p, hp, by simpa using e⟩
  · intro h
    obtain ⟨p, hp, e⟩ := List.mem_map.1 h
    exact ⟨p, hp, by simpa using e⟩
theorem keys_perm {m : List (Int × Value)} {L : List Nat} (hnd : (m.map (·.1)).Nodup) (hmem : ∀ k : Int, (mget m k).isSome = true ↔ ∃ j ∈ L, k = (j : Int)) (hL : L.Nodup) : (m.map (·.1)).Perm (L.map fun (j : Nat) => (j : Int)) := by
  refine (List.perm_ext_iff_of_nodup hnd ?_).2 fun k => ?_
  · exact List.pairwise_map.2 (hL.imp fun hne e => hne (by omega))
  · rw [← mget_mem, hmem, List.mem_map]
    exact ⟨fun ⟨j, h1, h2⟩ => ⟨j, h1, h2.symm⟩, fun ⟨j, h1, h2⟩ => ⟨j, h1, h2.symm⟩⟩
theorem sorted_keys {ss : List Int} {L : List Nat} (h : ss.Perm (L.map fun (j : Nat) => (j : Int))) (hL : L.Pairwise (· < ·)) : ss.mergeSort (fun x y => decide (x ≤ y)) = L.map fun (j : Nat) => (j : Int) := by
  have tr : ∀ a b c : Int, leI a b = true → leI b c = true → leI a c = true := fun a b c h1 h2 => by simp only [leI, decide_eq_true_eq] at *; exact Int.le_trans h1 h2
  have tt : ∀ a b : Int, (leI a b || leI b a) = true := fun a b => by simp only [leI, Bool.or_eq_true, decide_eq_true_eq]; exact Int.le_total a b
  refine List.Perm.eq_of_pairwise (le := fun a b => leI a b = true) (fun a b _ _ h1 h2 => ?_) (List.pairwise_mergeSort tr tt ss) ?_ ((List.mergeSort_perm ss leI).trans h)
  · simp only [leI, decide_eq_true_eq] at h1 h2
    exact Int.le_antisymm h1 h2
  · exact List.pairwise_map.2 (hL.imp fun hlt => by simp only [leI, decide_eq_true_eq]; omega)
theorem range_filter_lt (n : Nat) (p : Nat → Bool) : ((List.range n).filter p).Pairwise (· < ·) := List.Pairwise.filter p List.pairwise_lt_range
theorem IMap.owns {H : Type} {P : Program} {k : TypeId} {w : World} {b : Nat} {m : List (Int × Value)} (hk : P.underlying k = some (.int .i64)) (hm : IMap w b m) (hr : ∀ p ∈ m, -9223372036854775808 ≤ p.1 ∧ p.1 ≤ 9223372036854775807) (hl : m.length ≤ maxLen) :
    ∃ D : DataW H, w.ownsMap P k (fun _ => some (.nil, [])) b m.length D ∧ (intKeys D).Perm (m.map (·.1)) ∧ Maps.size D = m.length := by
  obtain ⟨es, clock, hb, hs, h4⟩ := hm
  have hlen : es.toList.length = m.length := by have := congrArg List.length h4; simpa using this
  have hkey : ∀ x ∈ es.toList, ∃ a : Int, x.key = .int .i64 a ∧ keyOf P k x.key = some (.int .i64 a) := by
    intro x hx
    have h5 : (x.key, x.val) ∈ es.toList.map (fun e => (e.key, e.val)) := List.mem_map.2 ⟨x, hx, rfl⟩
    rw [h4] at h5
    obtain ⟨p, hp, e⟩ := List.mem_map.1 h5
    injection e with e1 _
    refine ⟨p.1, e1.symm, ?_⟩
    rw [← e1]
    have hw : (Lit.int .i64 p.1).wf = true := by
      have := hr p hp
      simp [Lit.wf, IntKind.min, IntKind.max, IntKind.signed, IntKind.bits]; omega
    simp [keyOf, hk, mapKey, hw]
  have hrd : ∀ x ∈ es.toList, ∃ a : Int, x.key = .int .i64 a ∧ WideElems.rd (H := H) P k (fun _ => some (.nil, [])) x = some (.int .i64 a, .nil) := by
    intro x hx
    obtain ⟨a, h1, h2⟩ := hkey x hx
    exact ⟨a, h1, by simp [WideElems.rd, h2]⟩
  refine ⟨_, ⟨es, clock, hb, ⟨by rw [← Array.length_toList, hlen]; exact hl, hs, fun x hx => ?_⟩, by rw [← Array.length_toList, hlen]; exact Nat.le_refl _, rfl⟩, ?_, ?_⟩
  · obtain ⟨a, _, h⟩ := hrd x hx
    exact ⟨_, h⟩
  · have hp := (WideShapes.sorted_perm (es.toList.map (WideElems.rg (H := H) P k fun _ => some (.nil, [])))).map fun p => Go.intOf p.1
    refine hp.trans (List.Perm.of_eq ?_)
    rw [List.map_map]
    have h5 : es.toList.map (fun e => e.key) = m.map fun p => Value.int .i64 p.1 := by
      have := congrArg (List.map Prod.fst) h4
      rw [List.map_map, List.map_map] at this
      exact this
    have h6 : (es.toList.map fun e => e.key).map (fun v => match v with | .int _ a => a | _ => 0) = m.map (·.1) := by
      rw [h5, List.map_map]; rfl
    rw [← h6, List.map_map]
    refine List.map_congr_left fun x hx => ?_
    obtain ⟨a, h1, h2⟩ := hrd x hx
    simp [WideElems.rg_of h2, h1, Go.intOf]
  · show ((es.toList.map (WideElems.rg (H := H) P k fun _ => some (.nil, []))).foldr DataW.insert []).length = m.length
    rw [length_sorted, List.length_map, hlen]
end Go.Proofs.YtbmnbdkbgpajeaaGreatDoor
end
/- Pending and Worn of the program's disk. -/
section
namespace Go.Proofs.YtbmnbdkbgpajeaaGreatDoor
open Go.RowKit Go.Own Go.Disk Go.Maps Go.Sort Go.Shelf
theorem sortsA (m : Nat) : AnyZI.SortsIn Tryz.prog Tryz.sortedA_ren Fence.wide m :=
  ⟨fun blk off cap ss W hH hblk hsz => callsIn_wide.2 (AnyM.slices_Sort_int Tryz.sortA blk off cap ss W hH hblk hsz),
   fun p cap W => callsIn_wide.2 (AnyM.slices_Sort_int_none Tryz.sortA p cap W)⟩
theorem pend_mem (d : DS) (k : Int) : (if inR d k then (sec d k).p.map bval else none).isSome = true ↔ ∃ j ∈ apend d.s, k = (j : Int) := by
  unfold apend
  constructor
  · intro h
    by_cases hk : inR d k = true
    · rw [if_pos hk, Option.isSome_map] at h
      obtain ⟨_, h1, h2, h3⟩ := sec_mem hk
      exact ⟨k.toNat, List.mem_filter.2 ⟨List.mem_range.2 h1, by rw [h3]; exact h⟩, by omega⟩
    · rw [if_neg hk] at h; cases h
  · rintro ⟨j, hj, rfl⟩
    obtain ⟨h1, h2⟩ := List.mem_filter.1 hj
    have h1 := List.mem_range.1 h1
    rw [if_pos (by simp [inR, h1]), Option.isSome_map]
    exact h2
theorem worn_mem (d : DS) (k : Int) : (if inR d k && (sec d k).w then some (Value.bool true) else none).isSome = true ↔ ∃ j ∈ aworn d.s, k = (j : Int) := by
  unfold aworn
  constructor
  · intro h
    by_cases hk : inR d k = true
    · obtain ⟨_, h1, h2, h3⟩ := sec_mem hk
      by_cases hw : (sec d k).w = true
      · exact ⟨k.toNat, List.mem_filter.2 ⟨List.mem_range.2 h1, by rw [h3]; exact hw⟩, by omega⟩
      · simp [hw] at h
    · simp [hk] at h
  · rintro ⟨j, hj, rfl⟩
    obtain ⟨h1, h2⟩ := List.mem_filter.1 hj
    have h1 := List.mem_range.1 h1
    have h2' : (sec d j).w = true := h2
    rw [h2', show inR d j = true by simp [inR, h1]]
    rfl

set_option maxHeartbeats 1000000 in
theorem pending_any (f : Ft) (d : DS) (w : World) (h : PD w f d) : Calls Tryz.prog 64 #[.pointer (some ⟨f.p, 0, none⟩)] w fun e w' => ∃ v, e = .returned v ∧ w'.ownsRow w.heap.size 3 1 v (apend d.s).length ((apend d.s).map fun (j : Nat) => encZ j) ∧ Below w.heap.size w w' := by
  obtain ⟨l, hB, _⟩ := h.head
  have c1 : w.cell? ⟨f.p, 1, none⟩ = some (.map (some f.pb)) := hB.cell rfl
  obtain ⟨m, hm, hmg⟩ := h.pend
  have hpm : (m.map (·.1)).Perm ((apend d.s).map fun (j : Nat) => (j : Int)) := keys_perm hm.nodup (fun k => by rw [hmg]; exact pend_mem d k) ((range_filter_lt _ _).imp fun hlt => Nat.ne_of_lt hlt)
  have hml : m.length ≤ 4096 := by
    have e1 := hpm.length_eq
    simp only [List.length_map] at e1
    have e2 : (apend d.s).length ≤ d.s.length := by
      have := List.length_filter_le (fun i => (d.s.getD i default).p.isSome) (List.range d.s.length)
      rw [List.length_range] at this
      exact this
    have := h.ok.most
    omega
  have hmr : ∀ p ∈ m, -9223372036854775808 ≤ p.1 ∧ p.1 ≤ 9223372036854775807 := by
    intro p hp
    have h1 : p.1 ∈ m.map (·.1) := List.mem_map.2 ⟨p, hp, rfl⟩
    rw [hpm.mem_iff] at h1
    obtain ⟨j, hj, e⟩ := List.mem_map.1 h1
    have h2 := List.mem_range.1 ((List.mem_filter.1 hj).1)
    have := h.ok.most
    omega
  obtain ⟨D0, hown, hD, hsz⟩ := IMap.owns (H := Unit) hKp hm hmr (by unfold maxLen; omega)
  have hmax : Maps.size D0 ≤ maxLen := by rw [hsz]; unfold maxLen; omega
  have hbytes : Maps.size D0 * 8 ≤ 140737488355328 := by rw [hsz]; omega
  refine (callsIn_wide (n := 6)).1 ?_
  have hbl := hown.lt
  have hseq : SeqGives Fence.wide 2 Tryz.prog 99 #[.pointer (some ⟨w.heap.size, 0, none⟩)] encZ (fun ss => ss.Perm (intKeys D0)) (Maps.size D0) (w.alloc (.cells #[.map (some f.pb)] 75)) :=
    AnyZI.keys_gives (ρ := Tryz.keysP_ren) { Tryz.keysP with } Fence.wide _ trivial rfl (by omega) w.heap.size f.pb m.length D0 _ (by simp) (by simp) (by
      obtain ⟨es, clock, hb, Ft, hs, hD⟩ := hown
      exact ⟨es, clock, (Below.heap_alloc _ _ f.pb hbl).trans hb, Ft, hs, hD⟩)
  have cK : ∀ mb W, CallsIn Fence.wide 5 Tryz.prog 84 #[.map mb] W fun e w' => e = .returned (.func (.func 99) #[] #[.pointer (some ⟨W.heap.size, 0, none⟩)]) ∧ w' = W.alloc (.cells #[.map mb] 75) := fun mb W => AnyZI.keys_in Tryz.keysP Fence.wide 5 trivial rfl mb W
  have cS := AnyZI.sorted_in Tryz.sortedA Fence.wide 5 trivial trivial trivial trivial rfl (by omega) (sortsA _) (enters_of Tryz.func98 (by kernel_rfl) rfl) 99 #[.pointer (some ⟨w.heap.size, 0, none⟩)] trivial (enters_of Tryz.func99 (by kernel_rfl) rfl) _ _ hmax hbytes _ hseq
  change CallsIn _ _ Tryz.prog 83 _ _ _ at cS
  have hfK : Fence.wide.fn 84 := trivial
  have hfS : Fence.wide.fn 83 := trivial
  refine callsIn_of_wp Tryz.func64 rfl trivial ?_ rfl
  simp only [Tryz.ntmps64, List.size_toArray, List.length_cons, List.length_nil, Nat.reduceAdd, Nat.reduceSub, Array.replicate_succ, Array.replicate_zero, List.push_toArray, List.append_toArray, List.nil_append, List.cons_append]
  gi_wp2_with (first
    | (gi_at_call 84; refine (cK _ _).mono ?_; rintro e w' ⟨rfl, rfl⟩)
    | (gi_at_call 83; refine cS.mono ?_; rintro e w' ⟨v, ss, rfl, hS, hrow, hnil, hb⟩))
  go_ret
  have hsort := sorted_keys ((hS.trans hD).trans hpm) (range_filter_lt _ _)
  have hlen : ss.length = (apend d.s).length := by
    have := ((hS.trans hD).trans hpm).length_eq
    simpa using this
  refine ⟨v, rfl, ?_, ((Below.refl _ w).alloc (Nat.le_refl _) _).trans (hb.mono (by simp))⟩
  have hr : w'.ownsRow w.heap.size 3 1 v ss.length ((ss.mergeSort fun x y => decide (x ≤ y)).map encZ) := ownsRow_base_a hrow (by simp)
  rw [hsort, hlen, List.map_map] at hr
  exact hr

end Go.Proofs.YtbmnbdkbgpajeaaGreatDoor
end
