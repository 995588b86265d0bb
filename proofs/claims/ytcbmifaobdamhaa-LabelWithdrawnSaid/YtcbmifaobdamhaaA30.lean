/- label: part (the law's and the reference's), apart. -/
import Derived.Test.YtcbmifaobdamhaaA29
import Derived.Test.YtcbmifaobdamhaaP6
namespace Go.Proofs.Ytcbmifaobdamhaa
open Go.RowKit Go.Own Go.Theory Go.BigFrame Go.Ib Go.Label Go.Shelf
attribute [local irreducible] SqC.SqW
theorem sub_prt {t s : Nat} (ht : t < 65536) (hs : s < 65536) : sub (t : Int) s = prt t s := by
  rw [← sub_and _ _ (rg_nat ht), Ib.b_and t s (by omega) (by omega)]
  unfold prt
  rw [Bool.eq_iff_iff, beq_iff_eq, beq_iff_eq]
  omega
theorem ints_at {l : List Nat} {k : Nat} (h : k < l.length) : (ints l)[k]? = some (.int .i64 (l[k] : Nat)) := by simp [ints, h]
set_option maxRecDepth 100000 in
theorem lpart_any (l : List Nat) (s : Nat) (sa : Option Addr) (cap : Nat) (w : World) (hl : Sl w 1 (.slice sa l.length cap) l.length (ints l)) (hll : l.length ≤ 1000000) (hr : ∀ t ∈ l, t < 65536) (hs : s < 65536) :
    Calls Try.prog 30 #[.slice sa l.length cap, .int .i64 s] w fun e w' => e = .returned (.bool (l.any fun x => prt x s)) ∧ Below w.heap.size w w' := by
  have HR := Lib.hid hr; clear hr
  go_enter Try.func30, Try.ntmps30
  go_wp2
  go_loopw [5] (fun c wr => ∃ k : Nat, k ≤ l.length ∧ c = .int .i64 k ∧ ((l.take k).any fun x => prt x s) = false ∧ Below w.heap.size w wr) (fun c _ => l.length - (vInt c).toNat)
  case atStart => exact ⟨0, by omega, rfl, by simp, Below.refl _ _⟩
  case round =>
    obtain ⟨k, hk, rfl, he, hbr⟩ := hrel
    by_cases hkl : k < l.length
    · obtain ⟨ba, oa, rfl, _, _, hCa, hal⟩ := sl_at hl (by omega)
      obtain ⟨x, hx⟩ : ∃ x, x = l[k] := ⟨_, rfl⟩
      have cx : wr.cell? ⟨ba, oa + k, none⟩ = some (.int .i64 (x : Nat)) := (hCa.below hbr hal) k _ (by rw [ints_at hkl, hx])
      have hx6 : x < 65536 := by rw [hx]; exact HR.out _ (List.getElem_mem hkl)
      have hin := in_any x s (rg_nat hx6)
      have hkl' : (k : Int) < l.length := by omega
      have hsum : ((l.take (k + 1)).any fun x => prt x s) = prt x s := by
        rw [List.take_succ_eq_append_getElem hkl, List.any_append, he, ← hx]; simp
      rw [sub_prt hx6 hs] at hin
      have HX := Lib.hid hx; clear hx
      have HE := Lib.hid he; clear he
      have HS := Lib.hid hsum; clear hsum
      have HI := Lib.hid hin; clear hin
      cases hp : prt x s with
      | true =>
        have HP := Lib.hid hp; clear hp
        go_wp2_with (fail)
        refine (HI.out _).mono ?_
        rintro e w2 ⟨rfl, rfl⟩
        rw [HP.out]
        go_wp2
        go_ret
        have : (l.any fun x => prt x s) = true := List.any_eq_true.2 ⟨x, by rw [HX.out]; exact List.getElem_mem hkl, HP.out⟩
        rw [this]
        exact ⟨rfl, hbr⟩
      | false =>
        have HP := Lib.hid hp; clear hp
        go_wp2_with (fail)
        refine (HI.out _).mono ?_
        rintro e w2 ⟨rfl, rfl⟩
        rw [HP.out]
        go_wp2
        go_roundw
        case rel => exact ⟨k + 1, by omega, by go_num, by rw [HS.out]; exact HP.out, hbr⟩
        case measure => simp [vInt]; omega
    · have e : (l.any fun x => prt x s) = false := by rwa [List.take_of_length_le (by omega)] at he
      have HE := Lib.hid e; clear e he
      go_wp2
      go_ret
      rw [HE.out]
      exact ⟨rfl, hbr⟩
set_option maxRecDepth 100000 in
theorem rpart_any (l : List Nat) (s : Nat) (sa : Option Addr) (cap : Nat) (w : World) (hl : Sl w 1 (.slice sa l.length cap) l.length (ints l)) (hll : l.length ≤ 1000000) (hr : ∀ t ∈ l, t < 65536) (hs : s < 65536) :
    Calls Try.prog 49 #[.slice sa l.length cap, .int .i64 s] w fun e w' => e = .returned (.bool (l.any fun x => prt x s)) ∧ Below w.heap.size w w' := by
  have HR := Lib.hid hr; clear hr
  go_enter Try.func49, Try.ntmps49
  go_wp2
  go_loopw [5] (fun c wr => ∃ k : Nat, k ≤ l.length ∧ c = .int .i64 k ∧ ((l.take k).any fun x => prt x s) = false ∧ Below w.heap.size w wr) (fun c _ => l.length - (vInt c).toNat)
  case atStart => exact ⟨0, by omega, rfl, by simp, Below.refl _ _⟩
  case round =>
    obtain ⟨k, hk, rfl, he, hbr⟩ := hrel
    by_cases hkl : k < l.length
    · obtain ⟨ba, oa, rfl, _, _, hCa, hal⟩ := sl_at hl (by omega)
      obtain ⟨x, hx⟩ : ∃ x, x = l[k] := ⟨_, rfl⟩
      have cx : wr.cell? ⟨ba, oa + k, none⟩ = some (.int .i64 (x : Nat)) := (hCa.below hbr hal) k _ (by rw [ints_at hkl, hx])
      have hx6 : x < 65536 := by rw [hx]; exact HR.out _ (List.getElem_mem hkl)
      have hin := in_any x s (rg_nat hx6)
      have hkl' : (k : Int) < l.length := by omega
      have hsum : ((l.take (k + 1)).any fun x => prt x s) = prt x s := by
        rw [List.take_succ_eq_append_getElem hkl, List.any_append, he, ← hx]; simp
      rw [sub_prt hx6 hs] at hin
      have HX := Lib.hid hx; clear hx
      have HE := Lib.hid he; clear he
      have HS := Lib.hid hsum; clear hsum
      have HI := Lib.hid hin; clear hin
      cases hp : prt x s with
      | true =>
        have HP := Lib.hid hp; clear hp
        go_wp2_with (fail)
        refine (HI.out _).mono ?_
        rintro e w2 ⟨rfl, rfl⟩
        rw [HP.out]
        go_wp2
        go_ret
        have : (l.any fun x => prt x s) = true := List.any_eq_true.2 ⟨x, by rw [HX.out]; exact List.getElem_mem hkl, HP.out⟩
        rw [this]
        exact ⟨rfl, hbr⟩
      | false =>
        have HP := Lib.hid hp; clear hp
        go_wp2_with (fail)
        refine (HI.out _).mono ?_
        rintro e w2 ⟨rfl, rfl⟩
        rw [HP.out]
        go_wp2
        go_roundw
        case rel => exact ⟨k + 1, by omega, by go_num, by rw [HS.out]; exact HP.out, hbr⟩
        case measure => simp [vInt]; omega
    · have e : (l.any fun x => prt x s) = false := by rwa [List.take_of_length_le (by omega)] at he
      have HE := Lib.hid e; clear e he
      go_wp2
      go_ret
      rw [HE.out]
      exact ⟨rfl, hbr⟩
theorem apart_at {l : List Nat} (h : Apart l) {i k : Nat} (hi : i < l.length) (hk : k < l.length) (hne : i ≠ k) : prt l[i] l[k] = false := by
  have h2 := List.pairwise_iff_getElem.1 h
  rcases Nat.lt_or_ge i k with h3 | h3
  · exact (h2 i k hi hk h3).1
  · exact (h2 k i hk hi (by omega)).2
set_option maxRecDepth 100000 in
theorem apart_any (l : List Nat) (sa : Option Addr) (cap : Nat) (w : World) (hl : Sl w 1 (.slice sa l.length cap) l.length (ints l)) (hll : l.length ≤ 1000000) (hr : ∀ t ∈ l, t < 65536) (hap : Apart l) :
    Calls Try.prog 31 #[.slice sa l.length cap] w fun e w' => e = .returned (.bool true) ∧ Below w.heap.size w w' := by
  have HR := Lib.hid hr; clear hr
  have HAP := Lib.hid hap; clear hap
  go_enter Try.func31, Try.ntmps31
  go_wp2
  go_loopw [3] (fun c wr => ∃ i : Nat, i ≤ l.length ∧ c = .int .i64 i ∧ Below w.heap.size w wr) (fun c _ => l.length - (vInt c).toNat)
  case atStart => exact ⟨0, by omega, rfl, Below.refl _ _⟩
  case round =>
    obtain ⟨i, hi, rfl, hbr⟩ := hrel
    by_cases hil : i < l.length
    · have hil' : (i : Int) < l.length := by omega
      obtain ⟨ba, oa, rfl, _, _, hCa, hal⟩ := sl_at hl (by omega)
      obtain ⟨x, hx⟩ : ∃ x, x = l[i] := ⟨_, rfl⟩
      have hx6 : x < 65536 := by rw [hx]; exact HR.out _ (List.getElem_mem hil)
      have hcx : Blk wr 0 [] 0 → True := fun _ => trivial
      clear hcx
      go_wp2
      go_loopw [4] (fun c wq => ∃ k : Nat, k ≤ l.length ∧ c = .int .i64 k ∧ Below w.heap.size w wq) (fun c _ => l.length - (vInt c).toNat)
      case atStart => exact ⟨0, by omega, rfl, hbr⟩
      case round =>
        obtain ⟨k, hk, rfl, hbq⟩ := hrel
        by_cases hkl : k < l.length
        · have hkl' : (k : Int) < l.length := by omega
          obtain ⟨y, hy⟩ : ∃ y, y = l[k] := ⟨_, rfl⟩
          have hy6 : y < 65536 := by rw [hy]; exact HR.out _ (List.getElem_mem hkl)
          have hcells : ∀ U, Below w.heap.size w U → U.cell? ⟨ba, oa + i, none⟩ = some (.int .i64 (x : Nat)) ∧ U.cell? ⟨ba, oa + k, none⟩ = some (.int .i64 (y : Nat)) := fun U hU =>
            ⟨(hCa.below hU hal) i _ (by rw [ints_at hil, hx]), (hCa.below hU hal) k _ (by rw [ints_at hkl, hy])⟩
          by_cases hik : i = k
          · have hne : ((i : Int) != k) = false := by simp [hik]
            clear hik
            go_wp2
            go_quiet (fail)
            go_wp2
            go_roundw
            case rel => exact ⟨k + 1, by omega, by go_num, below_drewN hbq _⟩
            case measure => simp [vInt]; omega
          · have hne : ((i : Int) != k) = true := by simp; omega
            have hin := in_any x y (rg_nat hx6)
            rw [sub_prt hx6 hy6, show prt x y = false by rw [hx, hy]; exact apart_at HAP.out hil hkl hik] at hin
            have HI := Lib.hid hin; clear hin
            have HX := Lib.hid hx; clear hx
            have HY := Lib.hid hy; clear hy
            clear hik
            have hext : (fun W : World => W.cell? ⟨ba, oa + i, none⟩ = some (.int .i64 (x : Nat)) ∧ W.cell? ⟨ba, oa + k, none⟩ = some (.int .i64 (y : Nat))) wr.drew := hcells _ hbq.drew
            clear hcells hCa
            go_wp2
            haveI : Nonempty (SqC.Come (fun W : World => W.cell? ⟨ba, oa + i, none⟩ = some (.int .i64 (x : Nat)) ∧ W.cell? ⟨ba, oa + k, none⟩ = some (.int .i64 (y : Nat)))) := ⟨⟨_, hext⟩⟩
            refine SqC.wp_region_sqc 14 [12] (fun W : World => W.cell? ⟨ba, oa + i, none⟩ = some (.int .i64 (x : Nat)) ∧ W.cell? ⟨ba, oa + k, none⟩ = some (.int .i64 (y : Nat))) (by kernel_rfl) (by kernel_rfl) (by kernel_rfl) hext ?_
            obtain ⟨wd, hwd⟩ : ∃ wd : World, wd = wr.drew := ⟨_, rfl⟩
            have hbd : Below w.heap.size w wd := by rw [hwd]; exact hbq.drew
            rw [← hwd] at hext ⊢
            clear hwd hbq
            have HBD := Lib.hid hbd; clear hbd
            iterate 7 (refine SqC.quiet rfl rfl ?_; go_big_quiet_step (fail); refine wpQuiet_nil ?_)
            refine SqC.value (.int .i64 (x : Nat)) rfl rfl (by intro W hW; have cx := hW.1; go_simp) ?_
            simp only [Act.put, List.setIfInBounds_toArray, List.set_cons_zero, List.set_cons_succ]
            iterate 3 (refine SqC.quiet rfl rfl ?_; go_big_quiet_step (fail); refine wpQuiet_nil ?_)
            refine SqC.value (.int .i64 (y : Nat)) rfl rfl (by intro W hW; have cx := hW.2; go_simp) ?_
            simp only [Act.put, List.setIfInBounds_toArray, List.set_cons_zero, List.set_cons_succ]
            refine SqC.effect rfl rfl ?_
            refine yields_call rfl (by kernel_rfl) rfl rfl ((HI.out wd).mono ?_)
            rintro e w5 ⟨rfl, rfl⟩
            refine ⟨_, rfl, fun _ => hext, ?_⟩
            simp only [Act.put, List.setIfInBounds_toArray, List.set_cons_zero, List.set_cons_succ]
            refine SqC.quiet rfl rfl ?_; go_big_quiet_step (fail); refine wpQuiet_nil ?_
            refine SqC.nil ?_
            go_wp2
            go_roundw
            case rel => exact ⟨k + 1, by omega, by go_num, HBD.out⟩
            case measure => simp [vInt]; omega
        · go_wp2
          go_roundw
          case rel => exact ⟨i + 1, by omega, by go_num, by assumption⟩
          case measure => simp [vInt]; omega
    · go_wp2
      go_ret
      exact ⟨rfl, hbr⟩
end Go.Proofs.Ytcbmifaobdamhaa
