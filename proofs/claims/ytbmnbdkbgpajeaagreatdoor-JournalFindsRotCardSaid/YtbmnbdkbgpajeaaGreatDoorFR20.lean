/- journal: Numbers, Texts, Bad, Next, Room. -/
import Derived.Test.YtbmnbdkbgpajeaaGreatDoorFR19
/- journal: Numbers, Texts, Bad, Next, Room. -/
section
namespace Go.Proofs.YtbmnbdkbgpajeaaGreatDoor
open Go.RowKit Go.Own Go.Jn Go.Disk Go.BigFrame Go.Sha
theorem clone_ints (l : List Nat) (sa : Option Addr) (cap : Nat) (w : World) (h : Sl w 1 (.slice sa l.length cap) l.length (intsV l)) (hm : l.length ≤ 1000000) :
    Calls Tryz.prog 62 #[.slice sa l.length cap] w fun e w' => ∃ v, e = .returned v ∧ w'.ownsRow w.heap.size 3 1 v l.length (intsV l) ∧ Below w.heap.size w w' := by
  obtain ⟨_, ⟨h2, h3⟩ | ⟨b, off, cap', h2, h3, h4, h5, h6⟩⟩ := h
  · injection h2 with h2 _ _
    subst h2
    have hl : l = [] := List.length_eq_zero_iff.1 h3
    subst hl
    refine (AnyE.slices_Clone_nil Tryz.cloneI 0 cap w).mono ?_
    rintro e w' ⟨rfl, rfl⟩
    exact ⟨_, rfl, World.ownsRow_nil _ _ _ _, Below.refl _ _⟩
  · injection h2 with h2 _ _
    subst h2
    obtain ⟨i0, hi, e1, e2, e3⟩ := info_parts infoInt
    refine (AnyE.slices_Clone Tryz.cloneI i0 (.int .i64 0) 1 8 hi e1 e2 e3 rfl (by decide) Tryz.sizeOf3 b off l.length cap _ w (by simp [intsV]) (by unfold maxLen; omega) (by omega) (fun j u hj => h5 j u hj) (by intro u hu; obtain ⟨j, _, rfl⟩ := List.mem_map.1 hu; rfl)).mono ?_
    rintro e w' ⟨v, rfl, h1, _, h2⟩
    exact ⟨v, rfl, h1, h2⟩
theorem infoStr2 : True := trivial
theorem clone_strs (l : List (List UInt8)) (sa : Option Addr) (cap : Nat) (w : World) (h : Sl w 1 (.slice sa l.length cap) l.length (l.map str)) (hm : l.length ≤ 1000000) :
    Calls Tryz.prog 61 #[.slice sa l.length cap] w fun e w' => ∃ v, e = .returned v ∧ w'.ownsRow w.heap.size 9 1 v l.length (l.map str) ∧ Below w.heap.size w w' := by
  obtain ⟨_, ⟨h2, h3⟩ | ⟨b, off, cap', h2, h3, h4, h5, h6⟩⟩ := h
  · injection h2 with h2 _ _
    subst h2
    have hl : l = [] := List.length_eq_zero_iff.1 h3
    subst hl
    refine (AnyE.slices_Clone_nil Tryz.cloneS 0 cap w).mono ?_
    rintro e w' ⟨rfl, rfl⟩
    exact ⟨_, rfl, World.ownsRow_nil _ _ _ _, Below.refl _ _⟩
  · injection h2 with h2 _ _
    subst h2
    obtain ⟨i0, hi, e1, e2, e3⟩ := info_parts infoStr
    refine (AnyE.slices_Clone Tryz.cloneS i0 (str []) 1 16 hi e1 e2 e3 rfl (by decide) Tryz.sizeOf9 b off l.length cap _ w (by simp) (by unfold maxLen; omega) (by omega) (fun j u hj => h5 j u hj) (by intro u hu; obtain ⟨j, _, rfl⟩ := List.mem_map.1 hu; rfl)).mono ?_
    rintro e w' ⟨v, rfl, h1, _, h2⟩
    exact ⟨v, rfl, h1, h2⟩
section
variable {w : World} {f : Ft} {J : Jf} {j : JS}
theorem numbers_any (h : JM w f J j) : Calls Tryz.prog 42 #[.pointer (some ⟨J.g, 0, none⟩)] w fun e w' => ∃ v, e = .returned v ∧ w'.ownsRow w.heap.size 3 1 v (nums j).length (intsV (nums j)) ∧ Below w.heap.size w w' := by
  have hl : (nums j).length = j.rs.length := by simp [nums]
  have hr := h.rn
  have h1 : j.rs.length ≤ 8193 := by have := h.few.1; have := h.next; omega
  rw [← hl] at hr h1
  clear hl
  have cx : w.cell? ⟨J.g, 1, none⟩ = some J.vn := h.head.cell rfl
  obtain ⟨sn, cn, hv, _⟩ := own_slice hr
  rw [hv] at cx hr
  go_enter Tryz.func42, Tryz.ntmps42
  go_wp2_with fail
  refine (clone_ints (nums j) sn cn w (Sl.of_owns hr) (by omega)).mono ?_
  rintro e w1 ⟨v, rfl, o1, b1⟩
  go_wp2
  go_ret
  exact ⟨v, rfl, o1, b1⟩
theorem texts_any (h : JM w f J j) : Calls Tryz.prog 21 #[.pointer (some ⟨J.g, 0, none⟩)] w fun e w' => ∃ v, e = .returned v ∧ w'.ownsRow w.heap.size 9 1 v (texts j).length ((texts j).map str) ∧ Below w.heap.size w w' := by
  have hl : (texts j).length = j.rs.length := by simp [texts]
  have hr := h.rt
  have h1 : j.rs.length ≤ 8193 := by have := h.few.1; have := h.next; omega
  rw [← hl] at hr h1
  clear hl
  have cx : w.cell? ⟨J.g, 3, none⟩ = some J.vt := h.head.cell rfl
  obtain ⟨sn, cn, hv, _⟩ := own_slice hr
  rw [hv] at cx hr
  go_enter Tryz.func21, Tryz.ntmps21
  go_wp2_with fail
  refine (clone_strs (texts j) sn cn w (Sl.of_owns hr) (by omega)).mono ?_
  rintro e w1 ⟨v, rfl, o1, b1⟩
  go_wp2
  go_ret
  exact ⟨v, rfl, o1, b1⟩
theorem bad_any (h : JM w f J j) : Calls Tryz.prog 22 #[.pointer (some ⟨J.g, 0, none⟩)] w fun e w' => ∃ v, e = .returned v ∧ w'.ownsRow w.heap.size 3 1 v j.bad.length (intsV j.bad) ∧ Below w.heap.size w w' := by
  have hr := h.rb
  have h1 := h.few.2
  have cx : w.cell? ⟨J.g, 2, none⟩ = some J.vb := h.head.cell rfl
  obtain ⟨sn, cn, hv, _⟩ := own_slice hr
  rw [hv] at cx hr
  go_enter Tryz.func22, Tryz.ntmps22
  go_wp2_with fail
  refine (clone_ints j.bad sn cn w (Sl.of_owns hr) (by omega)).mono ?_
  rintro e w1 ⟨v, rfl, o1, b1⟩
  go_wp2
  go_ret
  exact ⟨v, rfl, o1, b1⟩
theorem next_any (h : JM w f J j) : Calls Tryz.prog 37 #[.pointer (some ⟨J.g, 0, none⟩)] w fun e w' => e = .returned (.int .i64 j.next) ∧ w' = w := by
  have cx : w.cell? ⟨J.g, 4, none⟩ = some (.int .i64 j.next) := h.head.cell rfl
  go_enter Tryz.func37, Tryz.ntmps37
  go_wp2
  go_ret
  exact ⟨rfl, rfl⟩
theorem room_any (h : JM w f J j) {d : DS} (hd : PD w f d) : Calls Tryz.prog 38 #[.pointer (some ⟨J.g, 0, none⟩)] w fun e w' => e = .returned (.int .i64 (room d j)) ∧ ∃ n, w' = w.drewN n := by
  have cx : w.cell? ⟨J.g, 0, none⟩ = some (.pointer (some ⟨f.p, 0, none⟩)) := h.head.cell rfl
  have cy : w.cell? ⟨J.g, 5, none⟩ = some (.int .i64 j.fin) := h.head.cell rfl
  have h1 := h.fin
  have h2 := hd.ok.most
  unfold room
  go_enter Tryz.func38, Tryz.ntmps38
  have hlen : ∀ n, Calls Tryz.prog 47 #[.pointer (some ⟨f.p, 0, none⟩)] (w.drewN n) fun e w' => e = .returned (.int .i64 d.s.length) ∧ w' = w.drewN n := fun n => len_any f d _ (hd.below (below_drewN (Below.refl _ w) n))
  have HL := Lib.hid hlen; clear hlen
  go_wp2_with fail
  refine wp_region_quiet_lit (by kernel_rfl) (by kernel_rfl) ?_
  repeat (go_big_quiet_step (exact Calls.quiet_of_same (HL.out _)))
  refine wpQuiet_nil ?_
  rintro _ ⟨n, rfl⟩
  go_wp2
  go_ret
  exact ⟨rfl, n, rfl⟩
end
end Go.Proofs.YtbmnbdkbgpajeaaGreatDoor
end
/- journal: Damaged. -/
section
namespace Go.Jn
def dmgK (ns : List Nat) (k : Nat) : List Nat := ((List.range k).drop 1).filter fun n => !ns.contains n
theorem dmgK_one (ns : List Nat) : dmgK ns 1 = [] := rfl
theorem dmgK_succ (ns : List Nat) {k : Nat} (h : 1 ≤ k) : dmgK ns (k + 1) = dmgK ns k ++ if ns.contains k then [] else [k] := by
  unfold dmgK
  rw [List.range_succ, List.drop_append_of_le_length (by simp; omega), List.filter_append]
  congr 1
  by_cases hm : k ∈ ns <;> simp [hm]
theorem dmgK_le (ns : List Nat) (k : Nat) : (dmgK ns k).length ≤ k := by
  unfold dmgK
  refine Nat.le_trans (List.length_filter_le _ _) ?_
  simp
end Go.Jn
namespace Go.Proofs.YtbmnbdkbgpajeaaGreatDoor
open Go.RowKit Go.Own Go.Jn Go.Disk Go.BigFrame Go.Sha
/-- The map behind q numbers. -/
def Dm (w : World) (B : Nat) (ns : List Nat) : Prop := ∃ m, IMap w B m ∧ ∀ k, mget m k = if k ∈ ns.map (fun n : Nat => (n : Int)) then some (.bool true) else none
theorem Dm.chg {w w' : World} {F : List Nat} {B : Nat} {ns : List Nat} (h : Dm w B ns) (hc : Chg F w w') (hB : B ∉ F) : Dm w' B ns := by
  obtain ⟨m, h1, h2⟩ := h
  exact ⟨m, h1.chg hc hB, h2⟩
theorem Dm.below {w w' : World} {B : Nat} {ns : List Nat} (h : Dm w B ns) (hb : Below w.heap.size w w') : Dm w' B ns := h.chg (.of_below (F := []) hb) (by simp)
theorem Dm.lt {w : World} {B : Nat} {ns : List Nat} (h : Dm w B ns) : B < w.heap.size := by
  obtain ⟨m, h1, _⟩ := h
  exact h1.lt
theorem hTw2 : Tryz.prog.underlying 45 = some (.map 3 4) := by kernel_rfl
theorem hKi : Tryz.prog.underlying 3 = some (.int .i64) := by kernel_rfl
theorem Dm.look {w : World} {B : Nat} {ns : List Nat} (h : Dm w B ns) (n : Nat) :
    (Instr.lookup 45 (.map (some B)) (.int .i64 (n : Int)) false).run Tryz.prog w = .ok (.bool (ns.contains n)) w := by
  obtain ⟨m, h1, h2⟩ := h
  have hz : ∀ w, (zeroValue 4).run Tryz.prog w = .ok (.bool false) w := fun w => by kernel_rfl
  rw [run_lookup_imap hTw2 hKi h1 (hz w) n false, h2]
  by_cases hn : n ∈ ns
  · rw [if_pos (List.mem_map.2 ⟨n, hn, rfl⟩)]
    simp [hn]
  · have hno : ¬ (n : Int) ∈ ns.map (fun n : Nat => (n : Int)) := by
      rw [List.mem_map]
      rintro ⟨a, ha, he⟩
      have : a = n := by omega
      exact hn (by rw [← this]; exact ha)
    rw [if_neg hno]
    simp [hn]
theorem Dm.put {w' : World} {B : Nat} {ns : List Nat} {m : List (Int × Value)} {n : Nat} (h : ∀ k, mget m k = if k ∈ ns.map (fun n : Nat => (n : Int)) then some (.bool true) else none) (hm : IMap w' B (mset m n (.bool true))) : Dm w' B (ns ++ [n]) := by
  refine ⟨_, hm, fun k => ?_⟩
  rw [mget_mset, List.map_append]
  by_cases hk : k = n
  · rw [if_pos hk, if_pos (by simp [hk])]
  · rw [if_neg hk, h]
    congr 1
    simp [hk]
attribute [local irreducible] SqW
set_option maxRecDepth 100000 in
theorem damaged_any {w : World} {f : Ft} {J : Jf} {j : JS} (h : JM w f J j) : Calls Tryz.prog 24 #[.pointer (some ⟨J.g, 0, none⟩)] w fun e w' => ∃ v, e = .returned v ∧ w'.ownsRow w.heap.size 3 1 v (damaged j).length (intsV (damaged j)) ∧ Below w.heap.size w w' := by
  have hr := h.rn
  have h1 : j.rs.length ≤ 8193 := by have := h.few.1; have := h.next; omega
  have hl : (nums j).length = j.rs.length := by simp [nums]
  have hnx := h.next
  have hhead := h.head
  have hd : damaged j = dmgK (nums j) j.next := rfl
  rw [hd]
  clear hd
  obtain ⟨ns, hns⟩ : ∃ ns, ns = nums j := ⟨_, rfl⟩
  obtain ⟨nx, hnx2⟩ : ∃ nx, nx = j.next := ⟨_, rfl⟩
  rw [← hns] at hl hr ⊢
  rw [← hnx2] at hnx hhead ⊢
  rw [← hl] at hr h1
  have cx : w.cell? ⟨J.g, 1, none⟩ = some J.vn := h.head.cell rfl
  obtain ⟨sn, cn, hv, _⟩ := own_slice hr
  rw [hv] at cx hr
  have gJ := h.head.lt
  clear hl hns hnx2 hv h
  have HR := Lib.hid hr; clear hr
  have HH := Lib.hid hhead; clear hhead
  have hm1 := fun (u : World) => run_makeMap (P := Tryz.prog) 45 u
  have ca : (w.alloc (.map #[] 0)).cell? ⟨J.g, 1, none⟩ = some (.slice sn ns.length cn) := ((alloc_below w (.map #[] 0)).cell (p := ⟨J.g, 1, none⟩) gJ).trans cx
  have hD : Dm (w.alloc (.map #[] 0)) w.heap.size [] := ⟨[], IMap.new w, fun k => rfl⟩
  have hW : Below w.heap.size w (w.alloc (.map #[] 0)) := alloc_below _ _
  obtain ⟨w1, hw1⟩ : ∃ w1, w.alloc (.map #[] 0) = w1 := ⟨_, rfl⟩
  have hm2 := hm1 w
  rw [hw1] at ca hD hW hm2
  clear hm1
  obtain ⟨B, hB⟩ : ∃ B, B = w.heap.size := ⟨_, rfl⟩
  rw [← hB] at gJ hD hW hm2 ⊢
  have HB := Lib.hid hB; clear hB hw1
  have HD := Lib.hid hD; clear hD
  have HW := Lib.hid hW; clear hW
  go_enter Tryz.func24, Tryz.ntmps24
  go_wp2_with fail
  go_loopw [14] (fun c wr => ∃ q : Nat, q ≤ ns.length ∧ c = .int .i64 q ∧ Hid (Dm wr B (ns.take q)) ∧ Hid (Below B w wr)) (fun c _ => ns.length - (jInt c).toNat)
  case atStart => exact ⟨0, Nat.zero_le _, rfl, HD, HW⟩
  case round =>
    clear HD HW ca hm2
    obtain ⟨q, hq, rfl, hD, hW⟩ := hrel
    by_cases hlt : q < ns.length
    · have hlc : (q : Int) < ns.length := by omega
      have ht : ns.take (q + 1) = ns.take q ++ [ns[q]] := by rw [List.take_succ_eq_append_getElem hlt]
      have HT := Lib.hid ht; clear ht
      obtain ⟨n, hn⟩ : ∃ n, n = ns[q] := ⟨_, rfl⟩
      rw [← hn] at HT
      obtain ⟨g, o, rfl, hC, ha⟩ : ∃ g o, sn = some ⟨g, o, none⟩ ∧ Cells w g o (intsV ns) ∧ g < w.heap.size := by
        obtain ⟨_, ⟨h2, h3⟩ | ⟨b, off, cap', h2, h3, h4, h5, h6⟩⟩ := Sl.of_owns HR.out
        · omega
        · injection h2 with h2 _ _
          exact ⟨b, off, h2, h5, h6⟩
      have hcell : wr.cell? ⟨g, o + q, none⟩ = some (.int .i64 (n : Int)) := by
        rw [hn]
        exact (hC.below (hW.out) (by rw [HB.out]; exact ha)) q _ (by simp [intsV, hlt])
      clear hC hn
      obtain ⟨m, hm, hg⟩ := hD.out
      go_wp2_with (refine wpList_mapUpdate_imap (k := (n : Int)) (v := .bool true) hm rfl rfl rfl rfl rfl rfl hTw2 hKi ?_)
      intro w3 hm3 hc3 _
      have hD3 : Dm w3 B (ns.take (q + 1)) := by rw [HT.out]; exact Dm.put hg hm3
      have hW3 : Below B w w3 := hW.out.trans (hc3.below (by have := hW.out.size; have := HB.out; omega) (by simp))
      have HD3 := Lib.hid hD3; clear hD3
      have HW3 := Lib.hid hW3; clear hW3 hD hW hg hm3 hc3 hm
      go_wp2
      go_roundw
      case rel => exact ⟨q + 1, by omega, by go_num, HD3, HW3⟩
      case measure => simp [jInt]; omega
    · obtain rfl : q = ns.length := by omega
      have hD1 := hD.out
      rw [List.take_length] at hD1
      have HD1 := Lib.hid hD1; clear hD1 hD
      have hBw : B < wr.heap.size := HD1.out.lt
      go_wp2_with fail
      have R0 : Hid (wr.ownsRow (B + 1) 3 1 (.slice none 0 0) (dmgK ns 1).length (intsV (dmgK ns 1))) := Lib.hid (World.ownsRow_nil _ _ _ _)
      go_loopw [6, 7] (fun v c wr => ∃ q : Nat, 1 ≤ q ∧ q ≤ nx ∧ c = .int .i64 q ∧ Hid (wr.ownsRow (B + 1) 3 1 v (dmgK ns q).length (intsV (dmgK ns q))) ∧ Hid (Dm wr B ns) ∧ Hid (Below B w wr)) (fun _ c _ => nx - (jInt c).toNat)
      case atStart => exact ⟨1, Nat.le_refl _, hnx.1, rfl, R0, HD1, hW⟩
      case round =>
        clear R0 HD1 hW hBw
        obtain ⟨q, hq1, hq, rfl, hR, hD, hW⟩ := hrel
        obtain ⟨so, co, rfl, _⟩ := own_slice hR.out
        have hdl := dmgK_le ns q
        have hBr : B < wr.heap.size := hD.out.lt
        have c4 : wr.cell? ⟨J.g, 4, none⟩ = some (.int .i64 (nx : Int)) := (HH.out.below hW.out gJ).cell rfl
        by_cases hlt : q < nx
        · have hlc : (q : Int) < nx := by omega
          have hds := dmgK_succ ns hq1
          have hlk := hD.out.look q
          obtain ⟨c0, hc0⟩ : ∃ c0, c0 = ns.contains q := ⟨_, rfl⟩
          rw [← hc0] at hds hlk
          have HDS := Lib.hid hds; clear hds hc0
          cases c0 with
          | true =>
            have hR2 := hR.out
            have hds := HDS.out
            rw [if_pos rfl, List.append_nil] at hds
            rw [← hds] at hR2
            have hl : (dmgK ns q).length = (dmgK ns (q + 1)).length := by rw [hds]
            have HR2 := Lib.hid hR2; clear hR2 hR HDS hds
            go_wp2
            go_roundw
            case rel => exact ⟨q + 1, by omega, by omega, by go_num, by rw [hl]; exact HR2, hD, hW⟩
            case measure => simp [jInt]; omega
          | false =>
            have hds := HDS.out
            rw [if_neg Bool.false_ne_true] at hds
            have HDS2 := Lib.hid hds; clear hds HDS
            obtain ⟨i, hi1, hi2, hi3, hi4⟩ := info_parts infoInt
            have HI := Lib.hid (show i.zero = some (.int .i64 0) ∧ i.size = 1 ∧ i.bytes = 8 from ⟨hi2, hi3, hi4⟩)
            have HI1 := Lib.hid hi1; clear hi1 hi2 hi3 hi4
            go_wp2_with (refine wpList_append_lies _ rfl _ _ 51 rfl (B + 1) 3 i (.int .i64 0) 1 8 hTints HI1.out HI.out.1 HI.out.2.1 HI.out.2.2 rfl (by decide) _ (dmgK ns q).length _ rfl (own_below hR.out (alloc_below _ _)) ⟨wr.heap.size, 0, none⟩ 1 1 [.int .i64 q] rfl rfl (World.news_of_block (Blk.new wr #[.int .i64 (q : Int)] 3)) (by intro u hu; simp at hu; rw [hu]; rfl) (by decide) (by unfold maxLen; omega) (by omega) (by simp; omega) _ rfl ?_)
            intro g5 cap5 w9 m1 m2 m3 m4
            have x1 : Dm w9 B ns := by
              have hDa := hD.out.below (alloc_below wr (.cells #[.int .i64 (q : Int)] 3))
              obtain ⟨mm, hm1, hm2⟩ := hDa
              exact ⟨mm, hm1.same (m2.block B hm1.lt (fun e => by have := (hR.out.lt B e.symm).1; omega)), hm2⟩
            have x2 : Below B w w9 := grown_below (base := B) (hW.out.alloc (Nat.le_of_lt hBr) _) (own_weaken (own_below hR.out (alloc_below wr _)) (by omega)) m2 (by simp; omega)
            have y2 : w9.ownsRow (B + 1) 3 1 (.slice (some ⟨g5, 0, none⟩) ((dmgK ns q).length + 1) cap5) (dmgK ns (q + 1)).length (intsV (dmgK ns (q + 1))) := by
              rw [HDS2.out]
              have e : intsV (dmgK ns q ++ [q]) = intsV (dmgK ns q) ++ [.int .i64 (q : Int)] := by unfold intsV; rw [List.map_append]; rfl
              rw [e, List.length_append]
              exact m1
            have X1 := Lib.hid x1; clear x1
            have X2 := Lib.hid x2; clear x2
            have Y2 := Lib.hid y2; clear y2 m1 m2 m3 hR hD hW
            go_wp2
            go_roundw
            case rel => exact ⟨q + 1, by omega, by omega, by go_num, Y2, X1, X2⟩
            case measure => simp [jInt]; omega
        · obtain rfl : q = nx := by omega
          go_wp2
          go_ret
          exact ⟨_, rfl, own_weaken hR.out (by omega), hW.out⟩
end Go.Proofs.YtbmnbdkbgpajeaaGreatDoor
end
/- journal: write: sectors are written, flushed, and read again. -/
section
namespace Go.Jn
open Go.Disk
def awr (d : DS) (i : Nat) (l : List (List UInt8)) : (Int × Bool) × DS :=
  if (awrites d i l).1 ≠ 0 then (((awrites d i l).1, false), (awrites d i l).2)
  else if (aflush (awrites d i l).2).1 ≠ 0 then (((aflush (awrites d i l).2).1, false), (aflush (awrites d i l).2).2)
  else if (areads (aflush (awrites d i l).2).2 i l true).1 ≠ 0 then (((areads (aflush (awrites d i l).2).2 i l true).1, false), (aflush (awrites d i l).2).2)
  else ((0, (areads (aflush (awrites d i l).2).2 i l true).2), (aflush (awrites d i l).2).2)
end Go.Jn
namespace Go.Proofs.YtbmnbdkbgpajeaaGreatDoor
open Go.RowKit Go.Own Go.Jn Go.Disk Go.BigFrame Go.Sha
attribute [local irreducible] SqW
attribute [local go_sem] setCell_twice str_size op_str_eql op_str_neq
theorem sl_strcell {W : World} {sa : Option Addr} {ca : Nat} {l : List (List UInt8)} (h : Sl W 1 (.slice sa l.length ca) l.length (l.map str)) {q : Nat} (hq : q < l.length) : ∃ g o, sa = some ⟨g, o, none⟩ ∧ W.cell? ⟨g, o + q, none⟩ = some (str l[q]) := by
  obtain ⟨_, ⟨h2, h3⟩ | ⟨b, off, cap', h2, h3, h4, h5, h6⟩⟩ := h
  · omega
  · injection h2 with h2 _ _
    exact ⟨b, off, h2, h5 q _ (by simp [hq])⟩
set_option maxRecDepth 100000 in
set_option maxHeartbeats 1600000 in
theorem jwrite_any {w : World} {f : Ft} {J : Jf} {j : JS} {d : DS} (h : JM w f J j) (hd : PD w f d) (l : List (List UInt8)) (sa : Option Addr) (ca : Nat) (hs : Sl w 1 (.slice sa l.length ca) l.length (l.map str)) (hb : ∀ b, (Value.slice sa l.length ca).ownBlock = some b → b ∉ f.all)
    (hl : l.length ≤ 4096) (i : Nat) (hi : i ≤ 4096) : Calls Tryz.prog 63 #[.pointer (some ⟨J.g, 0, none⟩), .int .i64 i, .slice sa l.length ca] w fun e w' =>
      e = .returned (.tuple #[.int .i64 (awr d i l).1.1, .bool (awr d i l).1.2]) ∧ PD w' f (awr d i l).2 ∧ Chg f.all w w' := by
  have HSL : ∀ W, Chg f.all w W → Sl W 1 (.slice sa l.length ca) l.length (l.map str) := fun W hc => hs.chg hc hb
  have HS := Lib.hid HSL; clear HSL hs hb
  have HCX : ∀ W, Chg f.all w W → W.cell? ⟨J.g, 0, none⟩ = some (.pointer (some ⟨f.p, 0, none⟩)) := fun W hc => (h.head.chg hc (h.apart _ (by simp [Jf.all]))).cell rfl
  have HC := Lib.hid HCX; clear HCX h
  have HD := Lib.hid hd; clear hd
  obtain ⟨R, hR⟩ : ∃ R, R = awr d i l := ⟨_, rfl⟩
  rw [← hR]
  have HR := Lib.hid hR; clear hR
  go_enter Tryz.func63, Tryz.ntmps63
  go_wp2_with fail
  go_loopw [19] (fun c wr => ∃ (q : Nat) (d1 : DS), q ≤ l.length ∧ c = .int .i64 q ∧ Hid (awrites d i l = awrites d1 (i + q) (l.drop q)) ∧ Hid (PD wr f d1) ∧ Hid (Chg f.all w wr)) (fun c _ => l.length - (jInt c).toNat)
  case atStart => exact ⟨0, d, Nat.zero_le _, rfl, Lib.hid (by rw [List.drop_zero, Nat.add_zero]), HD, Lib.hid (Chg.refl _ _)⟩
  case round =>
    obtain ⟨q, d1, hq, rfl, hA, hP, hW⟩ := hrel
    by_cases hlt : q < l.length
    · have hlc : (q : Int) < l.length := by omega
      obtain ⟨g, o, rfl, hcell⟩ := sl_strcell (HS.out wr hW.out) hlt
      have hA2 : awrites d i l = if (awrite d1 ((i + q : Nat) : Int) l[q]).1 ≠ 0 then awrite d1 ((i + q : Nat) : Int) l[q] else awrites (awrite d1 ((i + q : Nat) : Int) l[q]).2 (i + (q + 1)) (l.drop (q + 1)) := by
        rw [hA.out, List.drop_eq_getElem_cons hlt]
        rfl
      obtain ⟨s, hs⟩ : ∃ s, s = l[q] := ⟨_, rfl⟩
      rw [← hs] at hA2 hcell
      have cx := HC.out wr hW.out
      have hwr := write_any f d1 ((i : Int) + (q : Int)) s wr hP.out
      have e1 : ((i + q : Nat) : Int) = (i : Int) + (q : Int) := by omega
      rw [e1] at hA2
      clear e1 hs hA
      obtain ⟨x, hx⟩ : ∃ x, x = awrite d1 ((i : Int) + (q : Int)) s := ⟨_, rfl⟩
      rw [← hx] at hwr hA2
      obtain ⟨y, d2⟩ := x
      dsimp only at hwr hA2
      have HA2 := Lib.hid hA2; clear hA2 hx
      have HWR := Lib.hid hwr; clear hwr
      go_wp2_with fail
      refine HWR.out.mono ?_
      rintro e w3 ⟨rfl, hP3, hC3⟩
      have HP3 := Lib.hid hP3; clear hP3 hP
      have HW3 : Hid (Chg f.all w w3) := Lib.hid (hW.out.trans hC3)
      clear hC3 hW HWR
      by_cases hy : y = 0
      · have ha := HA2.out
        rw [if_neg (fun h => h hy)] at ha
        have HA3 := Lib.hid ha; clear ha HA2
        subst hy
        go_wp2
        go_roundw
        case rel => exact ⟨q + 1, d2, by omega, by go_num, HA3, HP3, HW3⟩
        case measure => simp [jInt]; omega
      · have ha := HA2.out
        rw [if_pos hy] at ha
        have hr := HR.out
        unfold awr at hr
        rw [ha] at hr
        dsimp only at hr
        rw [if_pos hy] at hr
        have HRR := Lib.hid hr; clear hr ha
        go_wp2
        go_ret2
        rw [HRR.out]
        exact ⟨rfl, HP3.out, HW3.out⟩
    · obtain rfl : q = l.length := by omega
      have ha := hA.out
      rw [List.drop_length] at ha
      have ha2 : awrites d i l = (0, d1) := ha
      have hr := HR.out
      unfold awr at hr
      rw [ha2] at hr
      dsimp only at hr
      rw [if_neg (fun h => h rfl)] at hr
      have HR2 := Lib.hid hr; clear hr ha ha2 hA
      have cx := HC.out wr hW.out
      have hfl := flush_any f d1 wr hP.out
      obtain ⟨x, hx⟩ : ∃ x, x = aflush d1 := ⟨_, rfl⟩
      have hr := HR2.out
      rw [← hx] at hr hfl
      obtain ⟨y, d2⟩ := x
      dsimp only at hr hfl
      have HR3 := Lib.hid hr; clear hr HR2 hx
      have HFL := Lib.hid hfl; clear hfl
      go_wp2_with fail
      refine HFL.out.mono ?_
      rintro e w3 ⟨rfl, hP3, hC3⟩
      have HP3 := Lib.hid hP3; clear hP3 hP
      have HW3 : Hid (Chg f.all w w3) := Lib.hid (hW.out.trans hC3)
      clear hC3 hW HFL
      by_cases hy : y = 0
      · have hr := HR3.out
        rw [if_neg (fun h => h hy)] at hr
        have HR4 := Lib.hid hr; clear hr HR3
        subst hy
        go_wp2_with fail
        go_loopw [12, 47] (fun v c wr => ∃ (q : Nat) (b : Bool), q ≤ l.length ∧ c = .int .i64 q ∧ v = .bool b ∧ Hid (areads d2 i l true = areads d2 (i + q) (l.drop q) b) ∧ Hid (PD wr f d2) ∧ Hid (Chg f.all w wr)) (fun _ c _ => l.length - (jInt c).toNat)
        case atStart => exact ⟨0, true, Nat.zero_le _, rfl, rfl, Lib.hid (by rw [List.drop_zero, Nat.add_zero]), HP3, HW3⟩
        case round =>
          clear HP3 HW3
          obtain ⟨q, b, hq, rfl, rfl, hA, hP, hW⟩ := hrel
          by_cases hlt : q < l.length
          · have hlc : (q : Int) < l.length := by omega
            obtain ⟨g, o, rfl, hcell⟩ := sl_strcell (HS.out _ hW.out) hlt
            have hA2 : areads d2 i l true = if (aread d2 ((i + q : Nat) : Int)).2 ≠ 0 then ((aread d2 ((i + q : Nat) : Int)).2, false) else areads d2 (i + (q + 1)) (l.drop (q + 1)) (b && decide (l[q] = (aread d2 ((i + q : Nat) : Int)).1)) := by
              rw [hA.out, List.drop_eq_getElem_cons hlt]
              rfl
            obtain ⟨s, hs⟩ : ∃ s, s = l[q] := ⟨_, rfl⟩
            rw [← hs] at hA2 hcell
            have cx := HC.out _ hW.out
            have hwr := read_any f d2 ((i : Int) + (q : Int)) _ hP.out
            have e1 : ((i + q : Nat) : Int) = (i : Int) + (q : Int) := by omega
            rw [e1] at hA2
            clear e1 hs hA
            obtain ⟨x, hx⟩ : ∃ x, x = aread d2 ((i : Int) + (q : Int)) := ⟨_, rfl⟩
            rw [← hx] at hwr hA2
            obtain ⟨t, y⟩ := x
            dsimp only at hwr hA2
            have HA2 := Lib.hid hA2; clear hA2 hx
            have HWR := Lib.hid hwr; clear hwr
            go_wp2_with fail
            refine HWR.out.mono ?_
            rintro e w5 ⟨rfl, hB5⟩
            have HP5 : Hid (PD w5 f d2) := Lib.hid (hP.out.below hB5)
            have HW5 : Hid (Chg f.all w w5) := Lib.hid (hW.out.trans (.of_below hB5))
            clear hB5 hW HWR hP
            by_cases hy : y = 0
            · have ha := HA2.out
              rw [if_neg (fun h => h hy)] at ha
              subst hy
              cases b with
              | false =>
                rw [Bool.false_and] at ha
                have HA3 := Lib.hid ha; clear ha HA2
                go_wp2
                go_roundw
                case rel => exact ⟨q + 1, false, by omega, by go_num, rfl, HA3, HP5, HW5⟩
                case measure => simp [jInt]; omega
              | true =>
                rw [Bool.true_and, show decide (s = t) = (s == t) by rw [Bool.eq_iff_iff]; simp] at ha
                have HA3 := Lib.hid ha; clear ha HA2
                go_wp2
                go_roundw
                case rel => exact ⟨q + 1, _, by omega, by go_num, rfl, HA3, HP5, HW5⟩
                case measure => simp [jInt]; omega
            · have ha := HA2.out
              rw [if_pos hy] at ha
              have hr := HR4.out
              rw [ha] at hr
              dsimp only at hr
              rw [if_pos hy] at hr
              have HRR := Lib.hid hr; clear hr ha
              go_wp2
              go_ret2
              rw [HRR.out]
              exact ⟨rfl, HP5.out, HW5.out⟩
          · obtain rfl : q = l.length := by omega
            have ha := hA.out
            rw [List.drop_length] at ha
            have ha2 : areads d2 i l true = (0, b) := ha
            have hr := HR4.out
            rw [ha2] at hr
            dsimp only at hr
            rw [if_neg (fun h => h rfl)] at hr
            have HRR := Lib.hid hr; clear hr ha ha2
            go_wp2
            go_ret2
            rw [HRR.out]
            exact ⟨rfl, hP.out, hW.out⟩
      · have hr := HR3.out
        rw [if_pos hy] at hr
        have HRR := Lib.hid hr; clear hr HR3
        go_wp2
        go_ret2
        rw [HRR.out]
        exact ⟨rfl, HP3.out, HW3.out⟩
end Go.Proofs.YtbmnbdkbgpajeaaGreatDoor
end
/- journal: Append, the plain part and the frame. -/
section
namespace Go.Jn
open Go.Disk
theorem aappend_awr (d : DS) (j : JS) (t : List UInt8) (h1 : j.closed = false) (h2 : t.length ≤ 8000) (h3 : j.next ≤ 4096) (h4 : (cntN t.length : Int) ≤ room d j) :
    aappend d j t = (if (awr d j.fin (pack j.next t)).1.1 ≠ 0 then (0, (awr d j.fin (pack j.next t)).1.1, { j with next := j.next + 1, fin := j.fin + cntN t.length, closed := true }, (awr d j.fin (pack j.next t)).2)
      else if (awr d j.fin (pack j.next t)).1.2 then ((j.next : Int), 0, { j with next := j.next + 1, fin := j.fin + cntN t.length, rs := j.rs ++ [(j.next, t)] }, (awr d j.fin (pack j.next t)).2)
      else (0, 26, { j with next := j.next + 1, fin := j.fin + cntN t.length }, (awr d j.fin (pack j.next t)).2)) := by
  unfold aappend awr
  rw [if_neg (by rw [h1]; simp), if_neg (by omega), if_neg (by omega)]
  dsimp only
  by_cases a : (awrites d j.fin (pack j.next t)).1 = 0
  · by_cases b : (aflush (awrites d j.fin (pack j.next t)).2).1 = 0
    · by_cases c : (areads (aflush (awrites d j.fin (pack j.next t)).2).2 j.fin (pack j.next t) true).1 = 0
      · simp only [a, b, c, ne_eq, not_true_eq_false, if_false]
      · simp only [a, b, c, ne_eq, not_true_eq_false, not_false_eq_true, if_false, if_true]
    · simp only [a, b, ne_eq, not_true_eq_false, not_false_eq_true, if_false, if_true]
  · simp only [a, ne_eq, not_false_eq_true, if_true]
theorem cntN_le {n : Nat} (h : n ≤ 8000) : 1 ≤ cntN n ∧ cntN n ≤ 167 := by
  unfold cntN
  rw [if_neg (by omega)]
  split <;> omega
end Go.Jn
namespace Go.Proofs.YtbmnbdkbgpajeaaGreatDoor
open Go.RowKit Go.Own Go.Jn Go.Disk Go.BigFrame Go.Sha
theorem packE_ok {n : Nat} {t : List UInt8} (h1 : 1 ≤ n) (h2 : n ≤ 4096) (h3 : t.length ≤ 8000) : packE n t = (pack n t, 0) := by
  unfold packE
  rw [if_neg (by omega), if_neg (by omega)]
  rfl
theorem pack_len (n : Nat) (t : List UInt8) : (pack n t).length = cntN t.length := by simp [pack]
theorem JM.own_ne {w : World} {f : Ft} {J : Jf} {j : JS} (_ : JM w f J j) {v : Value} {size n : Nat} {e : TypeId} {xs : List Value} {W : World} (ho : W.ownsRow (J.g + 1) e size v n xs) : ∀ b, v.ownBlock = some b → b ≠ J.g := fun b hb => by have := (ho.lt b hb).1; omega
theorem JM.set45 {w : World} {f : Ft} {J : Jf} {j : JS} (h : JM w f J j) (n k : Nat) (hn : j.next ≤ n ∧ n ≤ 4097) (hk : k ≤ 4096) :
    JM ((w.setCell ⟨J.g, 4, none⟩ (.int .i64 n)).setCell ⟨J.g, 5, none⟩ (.int .i64 k)) f J { j with next := n, fin := k } := by
  have h0 := h.next
  have h9 := h.few
  refine ⟨(h.head.set 4 _).set 5 _, ?_, ?_, ?_, h.low, h.nb, hk, ⟨by dsimp only; omega, hn.2⟩, ⟨by dsimp only; omega, h9.2⟩⟩
  · exact own_set (own_set h.rn (fun b hb => by have := h.own_ne h.rn b hb; simpa using this)) (fun b hb => by have := h.own_ne h.rn b hb; simpa using this)
  · exact own_set (own_set h.rb (fun b hb => by have := h.own_ne h.rb b hb; simpa using this)) (fun b hb => by have := h.own_ne h.rb b hb; simpa using this)
  · exact own_set (own_set h.rt (fun b hb => by have := h.own_ne h.rt b hb; simpa using this)) (fun b hb => by have := h.own_ne h.rt b hb; simpa using this)
theorem JM.shut {w : World} {f : Ft} {J : Jf} {j : JS} (h : JM w f J j) : JM (w.setCell ⟨J.g, 6, none⟩ (.bool true)) f J { j with closed := true } := by
  refine ⟨h.head.set 6 _, ?_, ?_, ?_, h.low, h.nb, h.fin, h.next, h.few⟩
  · exact own_set h.rn (fun b hb => by have := h.own_ne h.rn b hb; simpa using this)
  · exact own_set h.rb (fun b hb => by have := h.own_ne h.rb b hb; simpa using this)
  · exact own_set h.rt (fun b hb => by have := h.own_ne h.rt b hb; simpa using this)
theorem JM.push {w W' : World} {f : Ft} {J : Jf} {j : JS} (h : JM w f J j) (hc : Chg (ownF J.vn J.vt) w.drew W') {g1 c1 g2 c2 n : Nat} {t : List UInt8}
    (o1 : W'.ownsRow (J.g + 1) 3 1 (.slice (some ⟨g1, 0, none⟩) (j.rs.length + 1) c1) (j.rs.length + 1) (intsV (nums j) ++ [.int .i64 (n : Int)])) (n1 : J.vn.ownBlock = some g1 ∨ w.heap.size ≤ g1)
    (o2 : W'.ownsRow (J.g + 1) 9 1 (.slice (some ⟨g2, 0, none⟩) (j.rs.length + 1) c2) (j.rs.length + 1) ((texts j).map str ++ [str t])) (hf : j.rs.length + 1 ≤ 4096 + j.next) :
    JM ((W'.setCell ⟨J.g, 1, none⟩ (.slice (some ⟨g1, 0, none⟩) (j.rs.length + 1) c1)).setCell ⟨J.g, 3, none⟩ (.slice (some ⟨g2, 0, none⟩) (j.rs.length + 1) c2)) f ⟨J.g, .slice (some ⟨g1, 0, none⟩) (j.rs.length + 1) c1, J.vb, .slice (some ⟨g2, 0, none⟩) (j.rs.length + 1) c2⟩ { j with rs := j.rs ++ [(n, t)] } := by
  have hF : ∀ g ∈ ownF J.vn J.vt, J.g + 1 ≤ g := fun g hm => by
    simp only [ownF, List.mem_append, Option.mem_toList] at hm
    rcases hm with hm | hm
    · exact (h.rn.lt g hm).1
    · exact (h.rt.lt g hm).1
  have hbF : ∀ b, J.vb.ownBlock = some b → b ∉ ownF J.vn J.vt := fun b hb hm => by
    simp only [ownF, List.mem_append, Option.mem_toList] at hm
    rcases hm with hm | hm
    · exact h.nb b hm hb
    · exact own_types h.rt h.rb (by decide) b hm hb
  have hh := h.head.drew.chg hc (fun hm => by have := hF _ hm; omega)
  have rb := own_chg (own_below h.rb ((Below.refl w.heap.size w).drew)) hc hbF
  refine ⟨(hh.set 1 _).set 3 _, ?_, own_set (own_set rb (fun b hb => by have := h.own_ne rb b hb; simpa using this)) (fun b hb => by have := h.own_ne rb b hb; simpa using this), ?_, h.low, ?_, h.fin, h.next, ⟨by rw [List.length_append]; exact hf, h.few.2⟩⟩
  · have e : intsV (nums { j with rs := j.rs ++ [(n, t)] }) = intsV (nums j) ++ [.int .i64 (n : Int)] := by simp [intsV, nums]
    rw [e, List.length_append]
    exact own_set (own_set o1 (fun b hb => by have := h.own_ne o1 b hb; simpa using this)) (fun b hb => by have := h.own_ne o1 b hb; simpa using this)
  · have e : (texts { j with rs := j.rs ++ [(n, t)] }).map str = (texts j).map str ++ [str t] := by simp [texts]
    rw [e, List.length_append]
    exact own_set (own_set o2 (fun b hb => by have := h.own_ne o2 b hb; simpa using this)) (fun b hb => by have := h.own_ne o2 b hb; simpa using this)
  · intro b hb hv
    injection hb with hb
    subst hb
    rcases n1 with n1 | n1
    · exact h.nb _ n1 hv
    · have h9 : g1 < w.heap.size := (h.rb.lt _ hv).2
      omega
end Go.Proofs.YtbmnbdkbgpajeaaGreatDoor
end
