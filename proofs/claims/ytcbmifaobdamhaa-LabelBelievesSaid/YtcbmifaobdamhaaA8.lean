/- label: the program's Valid. -/
import Derived.Test.YtcbmifaobdamhaaA7
import Derived.Test.YtcbmifaobdamhaaShB
namespace Go.Proofs.Ytcbmifaobdamhaa
open Go.RowKit Go.Own Go.Theory Go.BigFrame Go.Ib Go.Label Go.Shelf
theorem noP (F : Int) (B : Nat) (w : World) (hB : B < w.heap.size) (hc : w.cell? ⟨B, 0, none⟩ = some (.int .i64 F)) :
    PredAt Try.prog 41 #[.pointer (some ⟨B, 0, none⟩)] (Value.int .i64) (noB F) w := fun W x hb => by
  have hcW : W.cell? ⟨B, 0, none⟩ = some (.int .i64 F) := (hb.cell (p := ⟨B, 0, none⟩) hB).trans hc
  exact (no_any F x B W hcW).mono (by rintro e w' ⟨rfl, rfl⟩; exact ⟨rfl, 0, rfl⟩)
theorem cfz_any {P : Program} {ρ : Ren} (L : SlLaysH.n8 P ρ) (p : Int → Bool) (g : Nat) (lb : Array Value) (eg : ∀ args w, (callFunc g args).run P w = .ok (.enter g args) w) (l : List Int) (sa : Option Addr) (cap : Nat) (w : World)
    (hp : PredAt P g lb (Value.int .i64) p w) (hl : Sz w (.slice sa l.length cap) l.length (l.map (.int .i64))) (hm : l.length ≤ 9223372036854775807) :
    Calls P (ρ.f 8) #[.slice sa l.length cap, .func (.func g) #[] lb] w fun e w' => e = .returned (.bool (l.any p)) ∧ ∃ q, w' = w.drewN q := by
  by_cases h0 : l.length = 0
  · rw [h0]
    refine (AnyE.slices_ContainsFunc_empty L sa cap _ w).mono ?_
    rintro e w' ⟨rfl, rfl⟩
    rw [List.length_eq_zero_iff.1 h0]
    exact ⟨rfl, 0, rfl⟩
  · exact cf_any L p g lb eg l sa cap w hp (hl (by omega)) hm
/-- ContainsFunc at a list of numbers: whether one is no fact -/
theorem cno_any (F : Int) (l : List Int) (sa : Option Addr) (cap B : Nat) (w : World) (hl : Sz w (.slice sa l.length cap) l.length (l.map (.int .i64))) (hll : l.length ≤ 1000000) (hB : B < w.heap.size) (hc : w.cell? ⟨B, 0, none⟩ = some (.int .i64 F)) :
    Calls Try.prog 42 #[.slice sa l.length cap, .func (.func 41) #[] #[.pointer (some ⟨B, 0, none⟩)]] w fun e w' => e = .returned (.bool (l.any (noB F))) ∧ ∃ q, w' = w.drewN q :=
  cfz_any Try.lc42 _ 41 _ (enters_of Try.func41 (by kernel_rfl) rfl) l sa cap w (noP F B w hB hc) hl (by omega)
set_option maxRecDepth 100000 in
/-- wrong: whether a rule is none of the base's -/
theorem wrong_any (b : Lg) (hF : 0 ≤ b.facts) (B C : Nat) (w : World) (hB : B < w.heap.size) (hC : C < w.heap.size) (hc : w.cell? ⟨B, 0, none⟩ = some (.int .i64 b.facts)) (hd : w.cell? ⟨C, 0, none⟩ = some (.func (.func 41) #[] #[.pointer (some ⟨B, 0, none⟩)])) (hlong : b.rules.any longR = false) :
    RuleP Try.prog 43 #[.pointer (some ⟨C, 0, none⟩)] b (badR b.facts) w := fun i hi sb cb hbd W hW => by
  have hl : b.rules[i].body.length ≤ 16 := by
    have h := List.any_eq_false.1 hlong b.rules[i] (List.getElem_mem hi)
    unfold longR at h
    rw [decide_eq_true_eq] at h
    omega
  obtain ⟨hd', hh⟩ : ∃ x, x = b.rules[i].head := ⟨_, rfl⟩
  obtain ⟨bl, hbl⟩ : ∃ x, x = b.rules[i].body := ⟨_, rfl⟩
  have e : badR b.facts b.rules[i] = ((hd' != -1 && noB b.facts hd') || bl.any (noB b.facts)) := by
    unfold badR noB
    rw [← hh, ← hbl]
    congr 1
    rw [Bool.eq_iff_iff]
    simp only [Bool.or_eq_true, Bool.and_eq_true, decide_eq_true_eq, bne_iff_ne]
    omega
  rw [e]
  rw [← hbl] at hbd hl
  rw [← hh, ← hbl]
  clear e hh hbl hlong
  obtain ⟨F, hF'⟩ : ∃ F, F = b.facts := ⟨_, rfl⟩
  rw [← hF'] at hc hF ⊢
  clear hF'
  obtain ⟨W2, hW2⟩ : ∃ W2, W2 = W.alloc (.cells #[.int .i64 hd', .slice sb bl.length cb] 61) := ⟨_, rfl⟩
  have b2 : Below w.heap.size w W2 := by rw [hW2]; exact hW.alloc hW.size _
  have hBW : B < W.heap.size := Nat.lt_of_lt_of_le hB hW.size
  have hCW : C < W.heap.size := Nat.lt_of_lt_of_le hC hW.size
  have hB2 : B < W2.heap.size := Nat.lt_of_lt_of_le hB b2.size
  have c0 : W2.cell? ⟨B, 0, none⟩ = some (.int .i64 F) := (b2.cell (p := ⟨B, 0, none⟩) hB).trans hc
  have c1 : W2.cell? ⟨C, 0, none⟩ = some (.func (.func 41) #[] #[.pointer (some ⟨B, 0, none⟩)]) := (b2.cell (p := ⟨C, 0, none⟩) hC).trans hd
  have cW1 : W.cell? ⟨C, 0, none⟩ = some (.func (.func 41) #[] #[.pointer (some ⟨B, 0, none⟩)]) := (hW.cell (p := ⟨C, 0, none⟩) hC).trans hd
  have hblk : Blk W2 W.heap.size [.int .i64 hd', .slice sb bl.length cb] 61 := by rw [hW2]; exact Blk.new W #[.int .i64 hd', .slice sb bl.length cb] 61
  have k0 : W2.cell? ⟨W.heap.size, 0, none⟩ = some (.int .i64 hd') := hblk.cell rfl
  have k1 : W2.cell? ⟨W.heap.size, 1, none⟩ = some (.slice sb bl.length cb) := hblk.cell rfl
  have hno := no_any F hd' B W2 c0
  have hcn := cno_any F bl sb cb B W2 (hbd.below b2) (by omega) hB2 c0
  have hW2' : W.alloc (.cells #[.int .i64 hd', .slice sb bl.length cb] 61) = W2 := hW2.symm
  have HW2 := Lib.hid hW2'; clear hW2' hW2 hbd hblk
  have HB2 := Lib.hid b2; clear b2 hW
  have HNO := Lib.hid hno; clear hno
  have HCN := Lib.hid hcn; clear hcn hc hd
  show Calls Try.prog 43 #[.agg #[.int .i64 hd', .slice sb bl.length cb], .pointer (some ⟨C, 0, none⟩)] W _
  go_enter Try.func43, Try.ntmps43
  by_cases h1 : hd' = -1
  · subst h1
    go_wp2_with (fail)
    rw [HW2.out]
    refine HCN.out.mono ?_
    rintro e w' ⟨rfl, q, rfl⟩
    obtain ⟨z, hz⟩ : ∃ z, z = bl.any (noB F) := ⟨_, rfl⟩
    rw [← hz]
    have HZ := Lib.hid hz; clear hz
    go_wp2
    go_ret
    exact ⟨by simp [HZ.out], below_drewN HB2.out _⟩
  · have h1' : (hd' = -1) = False := eq_false h1
    have h1'' : (hd' != -1) = true := by simpa using h1
    go_wp2_with (fail)
    rw [HW2.out]
    refine HNO.out.mono ?_
    rintro e w' ⟨rfl, rfl⟩
    cases hz : noB F hd' with
    | true =>
      have HZ := Lib.hid hz; clear hz
      go_wp2
      go_ret
      exact ⟨by rw [h1'', HZ.out]; rfl, HB2.out⟩
    | false =>
      have HZ := Lib.hid hz; clear hz
      go_wp2_with (fail)
      refine HCN.out.mono ?_
      rintro e w' ⟨rfl, q, rfl⟩
      obtain ⟨z, hz⟩ : ∃ z, z = bl.any (noB F) := ⟨_, rfl⟩
      rw [← hz]
      have HZ2 := Lib.hid hz; clear hz
      go_wp2
      go_ret
      exact ⟨by rw [← HZ2.out, h1'', HZ.out]; rfl, below_drewN HB2.out _⟩
end Go.Proofs.Ytcbmifaobdamhaa
