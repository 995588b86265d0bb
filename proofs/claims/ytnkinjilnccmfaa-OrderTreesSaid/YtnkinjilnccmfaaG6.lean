/- order: behind: each set stands behind the splits of its parts. -/
import Derived.Test.YtnkinjilnccmfaaN3
import Derived.Test.YtnkinjilnccmfaaG0
namespace Go.Order
open Go.RowKit Go.Own Go.Proofs.Ytnkinjilnccmfaa Go.Theory
/-- a part stands behind its own splits -/
def BehP (l : List Spl) (st : List Int) (i : Nat) (y : Int) : Prop := hasB st y = true ∧ (siz y = 1 ∨ ∃ j, ∃ hj : j < l.length, j < i ∧ l[j].w = y)
def Beh (l : List Spl) (st : List Int) : Prop := ∀ i (h : i < l.length), BehP l st i l[i].p ∧ BehP l st i l[i].rest
/-- what is met after j splits -/
def metB (l : List Spl) (y : Int) (j : Nat) : Bool := decide (siz y = 1) || (l.take j).any fun x => decide (x.w = y)
theorem metB_zero (l : List Spl) (y : Int) : metB l y 0 = decide (siz y = 1) := by unfold metB; simp
theorem metB_succ {l : List Spl} {y : Int} {j : Nat} (h : j < l.length) : metB l y (j + 1) = (metB l y j || decide (l[j].w = y)) := by
  unfold metB
  rw [List.take_succ_eq_append_getElem h, List.any_append, Bool.or_assoc]; simp
theorem metB_all {l : List Spl} {st : List Int} {y : Int} {i : Nat} (h : BehP l st i y) : metB l y i = true := by
  unfold metB
  rcases h.2 with h1 | ⟨j, hj, hji, e⟩
  · simp [h1]
  · rw [Bool.or_eq_true]; right
    rw [List.any_eq_true]
    exact ⟨l[j], List.mem_take_iff_getElem.2 ⟨j, by omega, rfl⟩, by simp [e]⟩
theorem beh_rev {T : List Spl} {st : List Int} (hp : ∀ i (hi : i < T.length), (hasB st T[i].p = true ∧ (siz T[i].p = 1 ∨ ∃ j, ∃ hj : j < T.length, i < j ∧ T[j].w = T[i].p)) ∧ (hasB st T[i].rest = true ∧ (siz T[i].rest = 1 ∨ ∃ j, ∃ hj : j < T.length, i < j ∧ T[j].w = T[i].rest))) : Beh T.reverse st := by
  intro i hi
  rw [List.length_reverse] at hi
  have e : ∀ (k : Nat) (hk : k < T.length) (hk2 : T.length - 1 - k < T.reverse.length), T.reverse[T.length - 1 - k] = T[k] := fun k hk hk2 => by
    rw [List.getElem_reverse]; congr 1; omega
  have e0 : T.reverse[i]'(by rw [List.length_reverse]; exact hi) = T[T.length - 1 - i] := List.getElem_reverse _
  rw [e0]
  obtain ⟨⟨a1, a2⟩, ⟨b1, b2⟩⟩ := hp (T.length - 1 - i) (by omega)
  refine ⟨⟨a1, ?_⟩, ⟨b1, ?_⟩⟩
  · rcases a2 with h1 | ⟨j, hj, hji, hw⟩
    · exact .inl h1
    · exact .inr ⟨T.length - 1 - j, by rw [List.length_reverse]; omega, by omega, by rw [e j hj]; exact hw⟩
  · rcases b2 with h1 | ⟨j, hj, hji, hw⟩
    · exact .inl h1
    · exact .inr ⟨T.length - 1 - j, by rw [List.length_reverse]; omega, by omega, by rw [e j hj]; exact hw⟩
theorem tre_beh {may : List Spl} {st : List Int} (hok : may.all Spl.ok = true) {s : Nat} (hs : s < 65536) (h : 0 ≤ (bb may st s).2) : Beh (tre may st 65536 s).reverse st := beh_rev fun i hi => tre_parts hok hs h hi
def bInt : Value → Bool | .bool b => b | _ => false
end Go.Order
namespace Go.Proofs.Ytnkinjilnccmfaa
open Go.RowKit Go.Own Go.BigFrame Go.Big Go.Order
attribute [local irreducible] SqC.SqW
set_option maxRecDepth 100000 in
set_option maxHeartbeats 6400000 in
theorem behind_any (l : List Spl) (st : List Int) (s t : Option Addr) (ca cb : Nat) (w : World) (hl : Lst w (.slice s l.length ca) l) (hm : Sz w (.slice t st.length cb) st.length (intsI st)) (hn : l.length < 1000000) (hns : st.length < 4611686018427387904) (hB : Beh l st) :
    Calls Try.prog 29 #[.slice s l.length ca, .slice t st.length cb] w fun e w' => e = .returned (.bool true) ∧ Below w.heap.size w w' := by
  have hnl : (l.length : Int) < 1000000 := by omega
  have hhas := fun (U : World) (hU : Below w.heap.size w U) (y : Int) => rhas_any st y t cb U (hm.below hU) hns
  obtain ⟨nl, hnl2⟩ : ∃ nl, nl = l.length := ⟨_, rfl⟩
  obtain ⟨ns, hns2⟩ : ∃ ns, ns = st.length := ⟨_, rfl⟩
  rw [← hnl2] at hnl hl ⊢
  rw [← hns2] at hhas ⊢
  have HL := Lib.hid hl; clear hl
  have HHAS := Lib.hid hhas; clear hhas
  have HB := Lib.hid hB; clear hB
  have HNL := Lib.hid hnl2; clear hnl2 hns2 hns hm hn
  go_enter Try.func29, Try.ntmps29
  go_wp2
  go_loopw [5, 6, 7, 8, 9] (fun v _ _ _ _ wr => ∃ i : Nat, i ≤ nl ∧ v = .int .i64 i ∧ Below w.heap.size w wr) (fun v _ _ _ _ _ => nl - (vInt v).toNat)
  case atStart => exact ⟨0, Nat.zero_le _, rfl, Below.refl _ _⟩
  case round =>
    obtain ⟨i, hi, rfl, hbr⟩ := hrel
    by_cases h1 : i < nl
    · have h1' : (i : Int) < nl := by omega
      have hil : i < l.length := by rw [← HNL.out]; exact h1
      obtain ⟨x, hx⟩ : ∃ x, x = l[i] := ⟨_, rfl⟩
      have hbx := HB.out i hil
      rw [← hx] at hbx
      have HBX := Lib.hid hbx; clear hbx
      have hL := HL.out
      rw [HNL.out] at hL
      obtain ⟨gl, o, rfl, _, _, _, hC, hgl⟩ := hL.at (by omega)
      have hcell : ∀ U, Below w.heap.size w U → ∀ (k : Nat) (hk : k < l.length), (∀ j v, l[k].cells[j]? = some v → U.cell? ⟨gl, o + k * 10 + j, none⟩ = some v) := fun U hU k hk j v hj =>
        (hU.cell (p := ⟨gl, o + k * 10 + j, none⟩) hgl).trans (hC k j v hk hj)
      have hld : ∀ U, Below w.heap.size w U → (loadVar 58 ⟨gl, o + i * 10, none⟩).run Try.prog U = .ok x.v U := fun U hU => by
        refine run_load_agg (P := Try.prog) (ty := 58) (vs := x.cells) (fun j v hj => ?_) aggS infoS
        rw [hx] at hj
        exact hcell U hU i hil j v hj
      have hpc : ∀ U, Below w.heap.size w U → U.cell? ⟨gl, o + i * 10 + 1, none⟩ = some (.int .i64 x.p) := fun U hU => by
        have := hcell U hU i hil 1 (.int .i64 x.p) (by rw [← hx]; rfl)
        simpa using this
      have hwc : ∀ U, Below w.heap.size w U → ∀ (k : Nat) (hk : k < l.length), U.cell? ⟨gl, o + k * 10, none⟩ = some (.int .i64 l[k].w) := fun U hU k hk => by
        have := hcell U hU k hk 0 (.int .i64 l[k].w) rfl
        simpa using this
      have hrs := fun U => rrest_any x U
      have HLD := Lib.hid hld; clear hld
      have HPC := Lib.hid hpc; clear hpc
      have HWC := Lib.hid hwc; clear hwc
      have HRS := Lib.hid hrs; clear hrs
      obtain ⟨xp, hxp⟩ : ∃ xp, xp = x.p := ⟨_, rfl⟩
      obtain ⟨xr, hxr⟩ : ∃ xr, xr = x.rest := ⟨_, rfl⟩
      obtain ⟨xv, hxv⟩ : ∃ xv, xv = x.v := ⟨_, rfl⟩
      rw [← hxp] at HBX HPC
      rw [← hxr] at HBX HRS
      rw [← hxv] at HLD HRS
      have HBR := Lib.hid hbr
      clear hxp hxr hxv hx hC hcell hL hil h1
      go_wp2
      have eX : Below w.heap.size w wr.drew := hbr.drew
      clear hbr
      haveI : Nonempty (SqC.Come fun U : World => Below w.heap.size w U) := ⟨⟨_, eX⟩⟩
      refine SqC.wp_region_sqc 12 [9, 10] (fun U : World => Below w.heap.size w U) (by kernel_rfl) (by kernel_rfl) (by kernel_rfl) eX ?_
      obtain ⟨wd, hwd⟩ : ∃ wd : World, wd = wr.drew := ⟨_, rfl⟩
      rw [← hwd] at eX ⊢
      clear hwd
      refine SqC.quiet rfl rfl ?_; go_big_quiet_step (fail); refine wpQuiet_nil ?_
      refine SqC.quiet rfl rfl ?_; go_big_quiet_step (fail); refine wpQuiet_nil ?_
      refine SqC.quiet rfl rfl ?_; go_big_quiet_step (fail); refine wpQuiet_nil ?_
      refine SqC.quiet rfl rfl ?_; go_big_quiet_step (fail); refine wpQuiet_nil ?_
      refine SqC.value (.int .i64 xp) rfl rfl (by intro U hU; have cx := HPC.out U hU; go_simp) ?_
      simp only [Act.put, List.setIfInBounds_toArray, List.set_cons_zero, List.set_cons_succ]
      refine SqC.quiet rfl rfl ?_; go_big_quiet_step (fail); refine wpQuiet_nil ?_
      refine SqC.quiet rfl rfl ?_; go_big_quiet_step (fail); refine wpQuiet_nil ?_
      refine SqC.quiet rfl rfl ?_; go_big_quiet_step (fail); refine wpQuiet_nil ?_
      refine SqC.value xv rfl rfl (by intro U hU; exact load_agg_exec rfl rfl (HLD.out U hU)) ?_
      simp only [Act.put, List.setIfInBounds_toArray, List.set_cons_zero, List.set_cons_succ]
      refine SqC.effect rfl rfl ?_
      refine yields_call rfl (by kernel_rfl) rfl rfl ((HRS.out wd).mono ?_)
      rintro e w6 ⟨rfl, b6⟩
      have e6 : Below w.heap.size w w6 := eX.trans (b6.mono eX.size)
      refine ⟨_, rfl, fun _ => e6, ?_⟩
      simp only [Act.put, List.setIfInBounds_toArray, List.set_cons_zero, List.set_cons_succ]
      refine SqC.effectW rfl rfl ?_
      go_wp2
      obtain ⟨W1, hW1⟩ : ∃ W1 : World, W1 = w6.alloc (.cells #[.int .i64 xp, .int .i64 xr] 22) := ⟨_, rfl⟩
      have bW : Below w6.heap.size w6 W1 := by rw [hW1]; exact alloc_below _ _
      have kW : Blk W1 w6.heap.size [.int .i64 xp, .int .i64 xr] 22 := by rw [hW1]; exact Blk.new w6 #[.int .i64 xp, .int .i64 xr] 22
      have e7 : Below w.heap.size w W1 := e6.trans (bW.mono e6.size)
      rw [← hW1]
      refine SqC.here rfl (fun _ => e7) ?_
      refine SqC.quiet rfl rfl ?_; go_big_quiet_step (fail); refine wpQuiet_nil ?_
      refine SqC.nil ?_
      have hpart : ∀ k, k < 2 → ∃ y, BehP l st i y ∧ ∀ U, Below W1.heap.size W1 U → U.cell? ⟨w6.heap.size, k, none⟩ = some (.int .i64 y) := fun k hk => by
        have hk' : k = 0 ∨ k = 1 := by omega
        rcases hk' with rfl | rfl
        · exact ⟨xp, HBX.out.1, fun U hU => (kW.below hU kW.lt).cell rfl⟩
        · exact ⟨xr, HBX.out.2, fun U hU => (kW.below hU kW.lt).cell rfl⟩
      have HPT := Lib.hid hpart; clear hpart kW
      have E7 := Lib.hid e7; clear e7 bW hW1 e6 b6 eX this HRS HLD HPC HBX HBR
      obtain ⟨g, hg⟩ : ∃ g, g = w6.heap.size := ⟨_, rfl⟩
      rw [← hg] at HPT ⊢
      clear hg
      go_wp2
      go_loopw [7, 8, 9] (fun v _ _ wr => ∃ k : Nat, k ≤ 2 ∧ v = .int .i64 k ∧ Below W1.heap.size W1 wr) (fun v _ _ _ => 2 - (vInt v).toNat)
      case atStart => exact ⟨0, Nat.zero_le _, rfl, Below.refl _ _⟩
      case round =>
        obtain ⟨k, hk, rfl, hbr⟩ := hrel
        by_cases h2 : k < 2
        · have h2' : (k : Int) < 2 := by omega
          obtain ⟨y, hy, hyc⟩ := HPT.out k h2
          have hyr := hyc wr hbr
          have hbk := fun (U : World) (hU : Below wr.heap.size wr U) => E7.out.trans ((hbr.trans (hU.mono hbr.size)).mono E7.out.size)
          have hyc2 := fun (U : World) (hU : Below wr.heap.size wr U) => hyc U (hbr.trans (hU.mono hbr.size))
          have HYC := Lib.hid hyc2; clear hyc2 hyc
          have HBK := Lib.hid hbk; clear hbk
          have HY := Lib.hid hy; clear hy
          have HBK0 := Lib.hid hbr; clear hbr
          obtain ⟨W2, hW2⟩ : ∃ W2, W2 = wr := ⟨_, rfl⟩
          have HW2 := Lib.hid hW2; clear hW2
          have hs0 := rsize_any y wr
          have HS0 := Lib.hid hs0; clear hs0
          clear h2
          go_wp2_with (fail)
          refine HS0.out.mono ?_
          rintro e w8 ⟨rfl, h8⟩
          subst h8
          clear HS0 hyr
          have hm0 : ((siz y : Int) == 1) = metB l y 0 := by rw [metB_zero]; by_cases hz : siz y = 1 <;> simp [hz]; omega
          go_wp2
          go_loopw [8, 9] (fun m v wr => ∃ j : Nat, j ≤ i ∧ v = .int .i64 j ∧ m = .bool (metB l y j) ∧ Below w8.heap.size w8 wr) (fun _ v _ => i - (vInt v).toNat)
          case atStart => exact ⟨0, Nat.zero_le _, rfl, rfl, Below.refl _ _⟩
          case round =>
            obtain ⟨j, hj, rfl, rfl, hbr⟩ := hrel
            by_cases h3 : j < i
            · have h3' : (j : Int) < i := by omega
              have hjl : j < l.length := by have := HNL.out; omega
              have hms := metB_succ (y := y) hjl
              have hyr := HYC.out wr hbr
              have hwr := HWC.out wr (HBK.out wr hbr) j hjl
              have hbd := hbr.drew
              have HMS := Lib.hid hms; clear hms
              have HBR := Lib.hid hbr; clear hbr
              obtain ⟨xw, hxw⟩ : ∃ xw, xw = l[j].w := ⟨_, rfl⟩
              rw [← hxw] at hwr HMS
              clear hxw
              cases hmet : metB l y j with
              | true =>
                rw [hmet] at HMS
                have e1 : metB l y (j + 1) = true := HMS.out
                have E1 := Lib.hid e1; clear e1 hmet hyr hwr
                go_wp2
                go_big_quiet (fail)
                go_wp2
                go_roundw
                case rel => exact ⟨j + 1, by omega, by go_num, by rw [E1.out]; try rfl, below_drewN HBR.out _⟩
                case measure => simp [vInt]; omega
              | false =>
                rw [hmet] at HMS
                have e1 : metB l y (j + 1) = decide (xw = y) := HMS.out
                have E1 := Lib.hid e1; clear e1 hmet
                go_wp2
                go_big_quiet (fail)
                go_wp2
                go_roundw
                case rel => exact ⟨j + 1, by omega, by go_num, by rw [E1.out]; try rfl, below_drewN HBR.out _⟩
                case measure => simp [vInt]; omega
            · obtain rfl : j = i := by omega
              have hma := metB_all HY.out
              rw [hma]
              have hh := HHAS.out wr (HBK.out wr hbr) y
              rw [HY.out.1] at hh
              have HH := Lib.hid hh; clear hh
              have hyr := HYC.out wr hbr
              have HBR := Lib.hid hbr
              clear hbr h3 hj hma
              go_wp2_with (fail)
              refine HH.out.mono ?_
              rintro e w9 ⟨rfl, h9⟩
              subst h9
              clear HH hyr
              go_wp2
              go_roundw
              case rel => exact ⟨k + 1, by omega, by go_num, HBK0.out.trans (HBR.out.mono HBK0.out.size)⟩
              case measure => simp [vInt]; omega
        · obtain rfl : k = 2 := by omega
          have hbb := E7.out.trans (hbr.mono E7.out.size)
          have HBB := Lib.hid hbb
          clear hbr hbb HPT h2 hk
          go_wp2
          go_roundw
          case rel => exact ⟨i + 1, by omega, by go_num, HBB.out⟩
          case measure => simp [vInt]; omega
    · obtain rfl : i = nl := by omega
      clear h1 hi
      go_wp2
      go_ret
      exact ⟨rfl, hbr⟩
end Go.Proofs.Ytnkinjilnccmfaa
