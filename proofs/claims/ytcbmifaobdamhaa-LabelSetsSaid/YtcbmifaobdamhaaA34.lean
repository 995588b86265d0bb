/- label: the reference's Rests, Count. -/
import Derived.Test.YtcbmifaobdamhaaA31
namespace Go.Label
open Go.RowKit Go.Own Go.Theory
theorem popTo_stop {s n : Nat} (hs : s < 2 ^ n) : ∀ d, popTo s (n + d) = popTo s n
  | 0 => rfl
  | d + 1 => by
    rw [← Nat.add_assoc]
    simp only [popTo]
    rw [popTo_stop hs d, Nat.testBit_lt_two_pow (Nat.lt_of_lt_of_le hs (Nat.pow_le_pow_right (by omega) (by omega)))]
    simp
theorem pop_eq {s n : Nat} (hs : s < 2 ^ n) (hn : n ≤ 16) : popTo s n = pop s := by
  have := popTo_stop hs (16 - n)
  rw [show n + (16 - n) = 16 by omega] at this
  exact this.symm
theorem popTo_le (s : Nat) : ∀ k, popTo s k ≤ k
  | 0 => Nat.le_refl _
  | k + 1 => by have := popTo_le s k; simp only [popTo]; split <;> omega
end Go.Label
namespace Go.Proofs.Ytcbmifaobdamhaa
open Go.RowKit Go.Own Go.Theory Go.BigFrame Go.Ib Go.Label Go.Shelf
set_option maxRecDepth 100000 in
theorem rrests_any (l : List Nat) (item : Int) (sa : Option Addr) (cap : Nat) (w : World) (hl : Sl w 1 (.slice sa l.length cap) l.length (ints l)) (hll : l.length ≤ 1000000) (hr : ∀ t ∈ l, t < 65536) :
    Calls Try.prog 23 #[.slice sa l.length cap, .int .i64 item] w fun e w' => e = .returned (.bool (restsB l item)) ∧ Below w.heap.size w w' := by
  by_cases h1 : item < 0
  · have e : restsB l item = false := by unfold restsB; rw [decide_eq_false (by omega)]; rfl
    have E := Lib.hid e; clear e
    go_enter Try.func23, Try.ntmps23
    go_wp2
    go_ret
    exact ⟨by rw [E.out]; rfl, Below.refl _ _⟩
  obtain ⟨k, rfl⟩ : ∃ k : Nat, item = k := ⟨item.toNat, by omega⟩
  have h1' : ((k : Int) < 0) = False := eq_false h1
  clear h1
  by_cases h2 : 16 ≤ k
  · have e : restsB l k = false := by unfold restsB; rw [decide_eq_false (show ¬ (k : Int) < 16 by omega), Bool.and_false]; rfl
    have E := Lib.hid e; clear e
    have h2' : (15 : Int) < (k : Int) := by omega
    clear h2
    go_enter Try.func23, Try.ntmps23
    go_wp2
    go_ret
    exact ⟨by rw [E.out]; rfl, Below.refl _ _⟩
  have h2' : ((15 : Int) < (k : Int)) = False := eq_false (by omega)
  have h2'' : (15 < k) = False := eq_false (by omega)
  by_cases h3 : l.length = 0
  · have e : restsB l k = false := by
      unfold restsB
      rw [List.length_eq_zero_iff.1 h3]
      simp
    have E := Lib.hid e; clear e hl hr h2
    rw [h3]
    clear h3
    go_enter Try.func23, Try.ntmps23
    go_wp2
    go_ret
    exact ⟨by rw [E.out]; rfl, Below.refl _ _⟩
  have h3' : ((l.length : Int) == 0) = false := by simpa using h3
  have e : restsB l k = l.all fun s => s.testBit k := by
    unfold restsB
    rw [decide_eq_true (show (0 : Int) ≤ k by omega), decide_eq_true (show (k : Int) < 16 by omega), Int.toNat_natCast]
    have hne : l.isEmpty = false := by
      cases l with
      | nil => exact absurd rfl h3
      | cons => rfl
    rw [hne]
    simp
  rw [e]
  have hk16 : k < 16 := by omega
  have HR := Lib.hid hr; clear hr
  have HK := Lib.hid hk16
  clear e h2 h3 hk16
  go_enter Try.func23, Try.ntmps23
  go_wp2
  go_loopw [5] (fun c wr => ∃ i : Nat, i ≤ l.length ∧ c = .int .i64 i ∧ ((l.take i).all fun s => s.testBit k) = true ∧ Below w.heap.size w wr) (fun c _ => l.length - (vInt c).toNat)
  case atStart => exact ⟨0, by omega, rfl, by simp, Below.refl _ _⟩
  case round =>
    obtain ⟨i, hi, rfl, he, hbr⟩ := hrel
    by_cases hil : i < l.length
    · have hil' : (i : Int) < l.length := by omega
      obtain ⟨ba, oa, rfl, _, _, hCa, hal⟩ := sl_at hl (by omega)
      obtain ⟨x, hx⟩ : ∃ x, x = l[i] := ⟨_, rfl⟩
      have cx : wr.cell? ⟨ba, oa + i, none⟩ = some (.int .i64 (x : Nat)) := (hCa.below hbr hal) i _ (by rw [ints_at hil, hx])
      have hx6 : x < 65536 := by rw [hx]; exact HR.out _ (List.getElem_mem hil)
      have hin := has_any x k (by omega) (by have := HK.out; omega)
      have hsum : ((l.take (i + 1)).all fun s => s.testBit k) = x.testBit k := by
        rw [List.take_succ_eq_append_getElem hil, List.all_append, he, ← hx]; simp
      have HX := Lib.hid hx; clear hx
      have HE := Lib.hid he; clear he
      have HS := Lib.hid hsum; clear hsum
      cases hp : x.testBit k with
      | false =>
        rw [hp] at hin
        have HI := Lib.hid hin; clear hin
        have HP := Lib.hid hp; clear hp
        go_wp2_with (fail)
        refine (HI.out _).mono ?_
        rintro e w2 ⟨rfl, rfl⟩
        go_wp2
        go_ret
        have : (l.all fun s => s.testBit k) = false := by
          cases h4 : l.all fun s => s.testBit k with
          | false => rfl
          | true =>
            have := List.all_eq_true.1 h4 x (by rw [HX.out]; exact List.getElem_mem hil)
            rw [HP.out] at this
            cases this
        rw [this]
        exact ⟨rfl, hbr⟩
      | true =>
        rw [hp] at hin
        have HI := Lib.hid hin; clear hin
        have HP := Lib.hid hp; clear hp
        go_wp2_with (fail)
        refine (HI.out _).mono ?_
        rintro e w2 ⟨rfl, rfl⟩
        go_wp2
        go_roundw
        case rel => exact ⟨i + 1, by omega, by go_num, by rw [HS.out]; exact HP.out, hbr⟩
        case measure => simp [vInt]; omega
    · have hil' : ((i : Int) < l.length) = False := eq_false (by omega)
      have e : (l.all fun s => s.testBit k) = true := by rwa [List.take_of_length_le (by omega)] at he
      have HE := Lib.hid e; clear e he
      go_wp2
      go_ret
      rw [HE.out]
      exact ⟨rfl, hbr⟩
set_option maxRecDepth 100000 in
theorem count_any (s n : Nat) (hs : s < 65536) (hn : n ≤ 16) (w : World) :
    Calls Try.prog 67 #[.int .i64 s, .int .i64 n] w fun e w' => e = .returned (.int .i64 (popTo s n : Nat)) ∧ w' = w := by
  go_enter Try.func67, Try.ntmps67
  go_wp2
  go_loopw [5, 6] (fun v5 c wr => ∃ k : Nat, k ≤ n ∧ c = .int .i64 k ∧ v5 = .int .i64 (popTo s k : Nat) ∧ wr = w) (fun _ c _ => n - (vInt c).toNat)
  case atStart => exact ⟨0, by omega, rfl, rfl, rfl⟩
  case round =>
    obtain ⟨k, hk, rfl, rfl, rfl⟩ := hrel
    have hle := popTo_le s k
    by_cases hkn : k < n
    · have hkn' : (k : Int) < n := by omega
      have hin := has_any s k (by omega) (by omega)
      have hnx : popTo s (k + 1) = popTo s k + if s.testBit k then 1 else 0 := rfl
      have HNX := Lib.hid hnx; clear hnx
      obtain ⟨c, hc⟩ : ∃ c, c = popTo s k := ⟨_, rfl⟩
      rw [← hc] at HNX hle ⊢
      clear hc
      cases hp : s.testBit k with
      | true =>
        rw [hp] at hin HNX
        have HI := Lib.hid hin; clear hin hp
        go_wp2_with (fail)
        refine (HI.out _).mono ?_
        rintro e w2 ⟨rfl, rfl⟩
        go_wp2
        go_roundw
        case rel => exact ⟨k + 1, by omega, by go_num, by rw [HNX.out]; go_num, trivial⟩
        case measure => simp [vInt]; omega
      | false =>
        rw [hp] at hin HNX
        have HI := Lib.hid hin; clear hin hp
        go_wp2_with (fail)
        refine (HI.out _).mono ?_
        rintro e w2 ⟨rfl, rfl⟩
        go_wp2
        go_roundw
        case rel => exact ⟨k + 1, by omega, by go_num, by rw [HNX.out]; rfl, trivial⟩
        case measure => simp [vInt]; omega
    · have hkn' : ((k : Int) < n) = False := eq_false (by omega)
      have e : k = n := by omega
      have HE := Lib.hid e; clear e
      go_wp2
      go_ret
      rw [HE.out]
      exact ⟨rfl, rfl⟩
end Go.Proofs.Ytcbmifaobdamhaa
/- label: the reference's ordered; labels in a plain slot. -/
namespace Go.Label
open Go.RowKit Go.Own Go.Theory
/-- the sets that have come: all with fewer than c elements, and of those with c the ones below s -/
def ordN (n c s : Nat) : List Nat := (ords n c ++ lay n c s).map (·.1)
theorem lay_zero (n c : Nat) : lay n c 0 = [] := by simp [lay]
theorem ordN_start (n : Nat) : ordN n 0 0 = [] := by unfold ordN; rw [lay_zero]; simp [ords]
theorem ordN_end (n : Nat) : ordN n (n + 1) 0 = ordL n := by unfold ordN ordL; rw [lay_zero, List.append_nil]
theorem ordN_next (n c : Nat) : ordN n c (2 ^ n) = ordN n (c + 1) 0 := by unfold ordN; rw [lay_zero, List.append_nil, ords_succ]
theorem ordN_yes {n c s : Nat} (h : s < 2 ^ n) (hc : pop s = c) : ordN n c (s + 1) = ordN n c s ++ [s] := by
  unfold ordN
  rw [lay_yes h hc, List.map_append, List.map_append, List.map_append, List.append_assoc]
  rfl
theorem ordN_no {n c s : Nat} (hc : ¬ pop s = c) : ordN n c (s + 1) = ordN n c s := by unfold ordN; rw [lay_no hc]
theorem ordN_len {n c s : Nat} (hn : n ≤ 8) (hc : c ≤ n + 1) (hs : s ≤ 2 ^ n) : (ordN n c s).length ≤ 2816 := by
  unfold ordN
  rw [List.length_map, List.length_append]
  have h1 := ords_len n c
  have h2 := lay_len n c s
  have h3 : (2 : Nat) ^ n ≤ 256 := Nat.pow_le_pow_right (n := 2) (by omega) hn
  have h4 : c * 2 ^ n ≤ 9 * 256 := Nat.mul_le_mul (by omega) h3
  omega
end Go.Label
namespace Go.Proofs.Ytcbmifaobdamhaa
open Go.RowKit Go.Own Go.Theory Go.BigFrame Go.Ib Go.Label Go.Shelf
set_option maxRecDepth 100000 in
theorem ordered_any (n : Nat) (hn : n ≤ 8) (w : World) :
    Calls Try.prog 48 #[.int .i64 n] w fun e w' => ∃ v, e = .returned v ∧ w'.ownsRow w.heap.size 26 1 v (ordL n).length (ints (ordL n)) ∧ Below w.heap.size w w' := by
  have hwp := wrap_pow (n := n) (by omega)
  have h256 : (2 : Nat) ^ n ≤ 256 := Nat.pow_le_pow_right (n := 2) (by omega) hn
  obtain ⟨M, hM⟩ : ∃ M, M = 2 ^ n := ⟨_, rfl⟩
  rw [← hM] at hwp h256
  have HM := Lib.hid hM; clear hM
  go_enter Try.func48, Try.ntmps48
  go_wp2
  go_loopw [3, 4] (fun v3 vc wr => ∃ c : Nat, c ≤ n + 1 ∧ vc = .int .i64 c ∧ wr.ownsRow w.heap.size 26 1 v3 (ordN n c 0).length (ints (ordN n c 0)) ∧ Below w.heap.size w wr) (fun _ vc _ => n + 1 - (vInt vc).toNat)
  case atStart => exact ⟨0, by omega, rfl, by rw [ordN_start]; exact World.ownsRow_nil _ _ _ _, Below.refl _ _⟩
  case round =>
    obtain ⟨c, hc, rfl, how, hbr⟩ := hrel
    by_cases h1 : c ≤ n
    · have h1' : (c : Int) ≤ n := by omega
      have HOW := Lib.hid how; clear how
      have HBR := Lib.hid hbr; clear hbr
      go_wp2
      go_loopw [3, 5] (fun v3 vs wq => ∃ s : Nat, s ≤ M ∧ vs = .int .i64 s ∧ wq.ownsRow w.heap.size 26 1 v3 (ordN n c s).length (ints (ordN n c s)) ∧ Below w.heap.size w wq) (fun _ vs _ => M - (vInt vs).toNat)
      case atStart => exact ⟨0, by omega, rfl, HOW.out, HBR.out⟩
      case round =>
        clear HOW HBR
        obtain ⟨s, hs, rfl, how, hbr⟩ := hrel
        have hlen := ordN_len (c := c) (s := s) hn hc (by rw [← HM.out]; exact hs)
        obtain ⟨L, hL⟩ : ∃ L, L = ordN n c s := ⟨_, rfl⟩
        obtain ⟨sv, cv, rfl, _⟩ := own_slice how
        rw [← hL] at how hlen ⊢
        by_cases h2 : s < M
        · have h2' : (s : Int) < M := by omega
          have hcn := count_any s n (by omega) (by omega)
          rw [pop_eq (by rw [← HM.out]; exact h2) (by omega)] at hcn
          obtain ⟨p, hp⟩ : ∃ p, p = pop s := ⟨_, rfl⟩
          rw [← hp] at hcn
          have HCN := Lib.hid hcn; clear hcn
          have HOW := Lib.hid how; clear how
          have HBR := Lib.hid hbr; clear hbr
          by_cases hpc : p = c
          · have hpc' : ((p : Int) == c) = true := by simp [hpc]
            have e : ordN n c (s + 1) = L ++ [s] := by rw [hL]; exact ordN_yes (by rw [← HM.out]; exact h2) (by rw [← hp]; exact hpc)
            have EE := Lib.hid e; clear e hpc hp hL
            go_wp2_with (fail)
            refine (HCN.out _).mono ?_
            rintro e w7 ⟨rfl, h7⟩
            have h8 := h7.symm
            clear h7
            subst h8
            have HOA := HOW.out.alloc (.cells #[.int .i64 s] 26)
            have hsz := HBR.out.size
            go_wp2_with (refine wpList_append_sl rfl _ _ 37 rfl w.heap.size 26 (.int .i64 0) 1 8 hTset infoSet rfl (by decide) _ L.length _ rfl HOA _ 1 [.int .i64 s] rfl (sl_new _ _ _ 1 rfl (by decide)) (by intro u hu; simp at hu; rw [hu]; rfl) (by unfold maxLen; omega) (by omega) (by simp; omega) ?_)
            intro v' w8 g1 g2
            have hb8 : Below w.heap.size w w8 := grown_below (HBR.out.alloc hsz (.cells #[.int .i64 s] 26)) HOA g2 (by simp; omega)
            have HB8 := Lib.hid hb8; clear hb8
            have HG1 := Lib.hid g1; clear g1 g2 HOA
            go_wp2
            go_roundw
            case rel => exact ⟨s + 1, by omega, by go_num, by rw [EE.out, List.length_append]; simpa [ints] using HG1.out, HB8.out⟩
            case measure => simp [vInt]; omega
          · have hpc' : ((p : Int) == c) = false := by simp; omega
            have e : ordN n c (s + 1) = L := by rw [hL]; exact ordN_no (by rw [← hp]; exact hpc)
            have EE := Lib.hid e; clear e hpc hp hL
            go_wp2_with (fail)
            refine (HCN.out _).mono ?_
            rintro e w7 ⟨rfl, h7⟩
            have h8 := h7.symm
            clear h7
            subst h8
            go_wp2
            go_roundw
            case rel => exact ⟨s + 1, by omega, by go_num, by rw [EE.out]; exact HOW.out, HBR.out⟩
            case measure => simp [vInt]; omega
        · have h2' : ((s : Int) < M) = False := eq_false (by omega)
          have e : ordN n (c + 1) 0 = L := by rw [hL, show s = 2 ^ n by rw [← HM.out]; omega]; exact (ordN_next n c).symm
          have EE := Lib.hid e; clear e hL
          have HOW := Lib.hid how; clear how
          have HBR := Lib.hid hbr; clear hbr
          go_wp2
          go_roundw
          case rel => exact ⟨c + 1, by omega, by go_num, by rw [EE.out]; exact HOW.out, HBR.out⟩
          case measure => simp [vInt]; omega
    · have h1' : ((c : Int) ≤ n) = False := eq_false (by omega)
      have e : ordN n c 0 = ordL n := by rw [show c = n + 1 by omega]; exact ordN_end n
      rw [e] at how
      have HOW := Lib.hid how; clear how e
      have HBR := Lib.hid hbr; clear hbr
      go_wp2
      go_ret
      exact ⟨_, rfl, HOW.out, HBR.out⟩
end Go.Proofs.Ytcbmifaobdamhaa
/- label: the reference's Labels. -/
namespace Go.Label
open Go.RowKit Go.Own Go.Theory
/-- labels and nogoods: in the block P the labels; the nogoods own a row -/
structure LabN (tS tI : TypeId) (W0 W : World) (P F : Nat) (lab : Nat → List Nat) (bad : List Nat) (vs : Nat → Value) (vb : Value) : Prop where
  lt : P < W0.heap.size
  lb : Blk W P (rm F vs) tS
  own : ∀ f, f < F → W.ownsRow W0.heap.size tI 1 (vs f) (lab f).length (ints (lab f))
  ownb : W.ownsRow W0.heap.size tI 1 vb bad.length (ints bad)
  dis : ∀ f g k, f < F → g < F → f ≠ g → (vs f).ownBlock = some k → (vs g).ownBlock ≠ some k
  disb : ∀ f k, f < F → (vs f).ownBlock = some k → vb.ownBlock ≠ some k
  chg : Chg [P] W0 W
variable {tS tI : TypeId} {W0 W W' : World} {P F : Nat} {lab : Nat → List Nat} {bad : List Nat} {vs : Nat → Value} {vb : Value}
theorem LabN.size (h : LabN tS tI W0 W P F lab bad vs vb) : W0.heap.size ≤ W.heap.size := h.chg.size
theorem LabN.below (h : LabN tS tI W0 W P F lab bad vs vb) (hb : Below W.heap.size W W') : LabN tS tI W0 W' P F lab bad vs vb :=
  ⟨h.lt, h.lb.below hb h.lb.lt, fun f hf => own_below (h.own f hf) hb, own_below h.ownb hb, h.dis, h.disb, h.chg.trans (Chg.of_below hb)⟩
theorem LabN.drewN (h : LabN tS tI W0 W P F lab bad vs vb) (n : Nat) : LabN tS tI W0 (W.drewN n) P F lab bad vs vb := h.below (below_drewN (Below.refl _ _) n)
theorem LabN.alloc (h : LabN tS tI W0 W P F lab bad vs vb) (o : Obj) : LabN tS tI W0 (W.alloc o) P F lab bad vs vb := h.below (alloc_below _ _)
theorem LabN.blk (h : LabN tS tI W0 W P F lab bad vs vb) {g : Nat} {l : List Value} {t : TypeId} (hb : Blk W0 g l t) (h1 : g ≠ P) : Blk W g l t := hb.chg h.chg (by simp; omega)
theorem LabN.low (h : LabN tS tI W0 W P F lab bad vs vb) {W1 : World} (hb : Below W1.heap.size W1 W0) (h1 : W1.heap.size ≤ P) : Below W1.heap.size W1 W :=
  hb.trans (h.chg.below hb.size (by simp; omega))
theorem LabN.congr (h : LabN tS tI W0 W P F lab bad vs vb) {lab' : Nat → List Nat} (he : ∀ f, f < F → lab f = lab' f) : LabN tS tI W0 W P F lab' bad vs vb :=
  ⟨h.lt, h.lb, fun f hf => by rw [← he f hf]; exact h.own f hf, h.ownb, h.dis, h.disb, h.chg⟩
/-- a row of the labels has grown -/
theorem LabN.put (h : LabN tS tI W0 W P F lab bad vs vb) {f s g cap : Nat} (hf : f < F) (hg : W.grownBy W' (vs f).ownBlock) (ho : W'.ownsRow W0.heap.size tI 1 (.slice (some ⟨g, 0, none⟩) ((lab f).length + 1) cap) ((lab f).length + 1) (ints (lab f) ++ [.int .i64 s]))
    (hat : (vs f).ownBlock = some g ∨ g = W.heap.size) :
    LabN tS tI W0 (W'.setCell ⟨P, f, none⟩ (.slice (some ⟨g, 0, none⟩) ((lab f).length + 1) cap)) P F (fun j => if j = f then lab f ++ [s] else lab j) bad (fun j => if j = f then .slice (some ⟨g, 0, none⟩) ((lab f).length + 1) cap else vs j) vb := by
  have hP : ∀ k, (vs f).ownBlock = some k → P < k := fun k hk => by have := (own_lt (h.own f hf) hk).1; have := h.lt; omega
  have hgB : ∀ v n xs, W.ownsRow W0.heap.size tI 1 v n xs → (∀ k, v.ownBlock = some k → (vs f).ownBlock ≠ some k) → (∀ k, v.ownBlock = some k → (Value.slice (some ⟨g, 0, none⟩) ((lab f).length + 1) cap).ownBlock ≠ some k) := fun v n xs hv hd k hk e => by
    have e1 : some g = some k := e
    injection e1 with e1
    subst e1
    rcases hat with hat | hat
    · exact hd _ hk hat
    · have := (own_lt hv hk).2; omega
  have hgP : P < g := by
    rcases hat with hat | hat
    · exact hP g hat
    · have := h.lt; have := h.size; omega
  refine ⟨h.lt, ?_, fun j hj => ?_, ?_, fun i j k hi hj hij hk => ?_, fun j k hj hk => ?_, ?_⟩
  · have h1 := (h.lb.grown hg (fun e => by have := hP P e.symm; omega)).set f (.slice (some ⟨g, 0, none⟩) ((lab f).length + 1) cap)
    rwa [rm_set] at h1
  · by_cases e : j = f
    · subst e
      rw [if_pos rfl, if_pos rfl]
      have : ints (lab j ++ [s]) = ints (lab j) ++ [.int .i64 s] := by simp [ints]
      rw [this, List.length_append]
      exact own_set ho (fun k hk => by
        have e1 : some g = some k := hk
        injection e1 with e1
        subst e1
        simp; omega)
    · rw [if_neg e, if_neg e]
      refine own_set (own_far (h.own j hj) hg fun k hk e2 => h.dis f j k hf hj (fun e3 => e e3.symm) e2 hk) fun k hk => ?_
      have := (own_lt (h.own j hj) hk).1
      have := h.lt
      simp; omega
  · refine own_set (own_far h.ownb hg fun k hk e2 => h.disb f k hf e2 hk) fun k hk => ?_
    have := (own_lt h.ownb hk).1
    have := h.lt
    simp; omega
  · by_cases e1 : i = f
    · rw [if_pos e1] at hk
      rw [if_neg (fun e => hij (e1.trans e.symm))]
      have e2 : some g = some k := hk
      injection e2 with e2
      subst e2
      intro h2
      exact hgB _ _ _ (h.own j hj) (fun k hk => fun e => h.dis f j k hf hj (fun e3 => hij (e1.trans e3)) e hk) g h2 rfl
    · rw [if_neg e1] at hk
      by_cases e2 : j = f
      · rw [if_pos e2]
        exact hgB _ _ _ (h.own i hi) (fun k hk => fun e => h.dis f i k hf hi (fun e3 => e1 e3.symm) e hk) k hk
      · rw [if_neg e2]
        exact h.dis i j k hi hj hij hk
  · by_cases e1 : j = f
    · rw [if_pos e1] at hk
      have e2 : some g = some k := hk
      injection e2 with e2
      subst e2
      intro h2
      exact hgB _ _ _ h.ownb (fun k hk => fun e => h.disb f k hf e hk) g h2 rfl
    · rw [if_neg e1] at hk
      exact h.disb j k hj hk
  · exact (h.chg.grown hg fun k hk => (own_lt (h.own f hf) hk).1).set _ (by simp)
/-- the row of the nogoods has grown -/
theorem LabN.putb (h : LabN tS tI W0 W P F lab bad vs vb) {s g cap : Nat} (hg : W.grownBy W' vb.ownBlock) (ho : W'.ownsRow W0.heap.size tI 1 (.slice (some ⟨g, 0, none⟩) (bad.length + 1) cap) (bad.length + 1) (ints bad ++ [.int .i64 s]))
    (hat : vb.ownBlock = some g ∨ g = W.heap.size) :
    LabN tS tI W0 W' P F lab (bad ++ [s]) vs (.slice (some ⟨g, 0, none⟩) (bad.length + 1) cap) := by
  have hP : ∀ k, vb.ownBlock = some k → P < k := fun k hk => by have := (own_lt h.ownb hk).1; have := h.lt; omega
  refine ⟨h.lt, h.lb.grown hg (fun e => by have := hP P e.symm; omega), fun j hj => own_far (h.own j hj) hg fun k hk e2 => h.disb j k hj hk e2, ?_, h.dis, fun j k hj hk e => ?_, h.chg.grown hg fun k hk => (own_lt h.ownb hk).1⟩
  · have : ints (bad ++ [s]) = ints bad ++ [.int .i64 s] := by simp [ints]
    rw [this, List.length_append]
    exact ho
  · have e1 : some g = some k := e
    injection e1 with e1
    subst e1
    rcases hat with hat | hat
    · exact h.disb j _ hj hk hat
    · have := (own_lt (h.own j hj) hk).2; omega
/-- what holds before the set number i -/
theorem pre_inv {b : Lg} (ok : Ok b) (n i : Nat) : Inv b ((ordL n).take i) (lfold b ((ordL n).take i)) := by
  have h := inv_all ok ((ordL n).take i) [] ⟨fun _ => [], []⟩ ⟨(fun t h => by cases h), (fun s h => by cases h), List.Pairwise.nil, (fun f t h => by cases h), (fun f s h => by cases h), fun f => List.Pairwise.nil⟩ (by rw [List.nil_append]; exact List.Pairwise.sublist (List.take_sublist _ _) (ords_pair n (n + 1)))
  rwa [List.nil_append] at h
end Go.Label
