/- journal: the reference: number, small, Checked. -/
import Derived.Test.YtbmnbdkbgpajeaaGreatDoorFR22
import Derived.Test.YtbmnbdkbgpajeaaGreatDoorFR04
import Derived.Deep.Slices
import Derived.SizedLaws
import Derived.Lib.SmallJoins
import Derived.Test.YtbmnbdkbgpajeaaGreatDoorN0
import Derived.Test.YtbmnbdkbgpajeaaGreatDoorFR00
/- journal: the reference: number, small, Checked. -/
section
namespace Go.Jn
theorem num_drop (s : List UInt8) {q : Nat} (h : q < s.length) : num (s.drop q) = s[q].toNat + 256 * num (s.drop (q + 1)) := by
  rw [List.drop_eq_getElem_cons h]
  rfl
theorem num_pow : ∀ (s : List UInt8), num s < 256 ^ s.length
  | [] => by simp [num]
  | b :: r => by
    have := num_pow r
    have := b.toNat_lt
    simp only [num, List.length_cons, Nat.pow_succ]
    omega
end Go.Jn
namespace Go.Proofs.YtbmnbdkbgpajeaaGreatDoor
open Go.RowKit Go.Own Go.Jn Go.Disk Go.BigFrame Go.Sha
attribute [local irreducible] SqW
theorem str_index (W : World) (x : List UInt8) (k : Nat) (u : UInt8) (hk : k < x.length) (hu : u = x.getD k 0) : (Instr.index 9 (str x) (.int .i64 k)).run Tryz.prog W = .ok (byv u) W := by
  have hs : (⟨x.toArray⟩ : ByteArray).size = x.length := by simp [ByteArray.size]
  have h := run_index_string (P := Tryz.prog) W 9 ⟨x.toArray⟩ .i64 k hTs
  rw [h, dif_pos ⟨by omega, by rw [hs]; omega⟩]
  have e : (⟨x.toArray⟩ : ByteArray)[(k : Int).toNat]'(by rw [hs]; omega) = u := by
    rw [hu]
    show x.toArray[(k : Int).toNat]'(by simp; omega) = _
    simp [hk]
  rw [e]
set_option maxRecDepth 100000 in
theorem number_any (w : World) (s : List UInt8) (hs : s.length ≤ 4) : Calls Tryz.prog 79 #[str s] w fun e w' => e = .returned (.int .i64 (num s)) ∧ w' = w := by
  go_enter Tryz.func79, Tryz.ntmps79
  go_wp2_with fail
  go_loopw [3, 4] (fun v c wr => ∃ q : Nat, q ≤ s.length ∧ c = .int .i64 ((q : Int) - 1) ∧ v = .int .i64 (num (s.drop q)) ∧ wr = w) (fun _ c _ => (jInt c + 1).toNat)
  case atStart => exact ⟨s.length, Nat.le_refl _, rfl, by rw [List.drop_length]; rfl, rfl⟩
  case round =>
    obtain ⟨q, hq, rfl, rfl, rfl⟩ := hrel
    by_cases h0 : q = 0
    · subst h0
      rw [List.drop_zero]
      have hlt := num_pow s
      go_wp2
      go_ret
      exact ⟨rfl, rfl⟩
    · obtain ⟨p, rfl⟩ : ∃ p, q = p + 1 := ⟨q - 1, by omega⟩
      have hp : p < s.length := by omega
      have e1 : (((p + 1 : Nat) : Int) - 1) = (p : Int) := by omega
      have hix := str_index wr s p s[p] hp (by rw [List.getD_eq_getElem?_getD, List.getElem?_eq_getElem hp]; rfl)
      have hnd := num_drop s hp
      have hlt := num_pow (s.drop p)
      have hl4 : (s.drop p).length ≤ 4 := by rw [List.length_drop]; omega
      have h256 : (256 : Nat) ^ (s.drop p).length ≤ 256 ^ 4 := Nat.pow_le_pow_right (by decide) hl4
      rw [e1]
      obtain ⟨m, hm⟩ : ∃ m, m = num (s.drop (p + 1)) := ⟨_, rfl⟩
      obtain ⟨u, hu⟩ : ∃ u, u = s[p] := ⟨_, rfl⟩
      rw [← hm] at hnd ⊢
      rw [← hu] at hnd hix
      have hu2 := u.toNat_lt
      have hmb : m ≤ 16777216 := by omega
      have HND := Lib.hid hnd; clear hnd hm hu e1 h256 hlt
      go_wp2
      go_roundw
      case rel => exact ⟨p, by omega, rfl, by rw [HND.out]; go_num, trivial⟩
      case measure => simp [jInt]
theorem infoU8k : (Tryz.prog.info? 5).map (fun i => (i.zero, i.size, i.bytes)) = some (some (.int .u8 0), 1, 1) := by kernel_rfl
theorem hTu8k : Tryz.prog.underlying 81 = some (.slice 5) := by kernel_rfl
set_option maxRecDepth 100000 in
theorem small_any (w : World) (n many : Nat) (hm : many ≤ 4) (hn : n ≤ 1000000) : Calls Tryz.prog 81 #[.int .i64 n, .int .i64 many] w fun e w' => ∃ v, e = .returned v ∧ w'.ownsRow w.heap.size 5 1 v many ((le many n).map byv) ∧ Below w.heap.size w w' := by
  obtain ⟨B, hB⟩ : ∃ B, B = w.heap.size := ⟨_, rfl⟩
  rw [← hB]
  have HB := Lib.hid hB; clear hB
  go_enter Tryz.func81, Tryz.ntmps81
  go_wp2_with fail
  go_loopw [0, 5, 6] (fun a v c wr => ∃ q : Nat, q ≤ many ∧ c = .int .i64 q ∧ a = .int .i64 ((n / 256 ^ q : Nat) : Int) ∧ Hid (wr.ownsRow B 5 1 v q ((le q n).map byv)) ∧ Hid (Below B w wr)) (fun _ _ c _ => many - (jInt c).toNat)
  case atStart => exact ⟨0, Nat.zero_le _, rfl, by simp, Lib.hid (World.ownsRow_nil _ _ _ _), Lib.hid (Below.refl _ _)⟩
  case round =>
    obtain ⟨q, hq, rfl, rfl, hR, hW⟩ := hrel
    obtain ⟨so, co, rfl, _⟩ := own_slice hR.out
    by_cases hlt : q < many
    · have hlc : (q : Int) < many := by omega
      have hle := le_snoc q n
      have hdv : n / 256 ^ (q + 1) = n / 256 ^ q / 256 := by rw [Nat.pow_succ, Nat.div_div_eq_div_mul]
      have hdl : n / 256 ^ q ≤ n := Nat.div_le_self _ _
      obtain ⟨m, hm2⟩ : ∃ m, m = n / 256 ^ q := ⟨_, rfl⟩
      rw [← hm2] at hle hdv hdl ⊢
      have hby : byv (UInt8.ofNat m) = .int .u8 ((m : Int) % 256) := by
        unfold byv
        rw [UInt8.toNat_ofNat']
        congr 1
      have HLE := Lib.hid hle; clear hle
      have HDV := Lib.hid hdv; clear hdv hm2
      have HBY := Lib.hid hby; clear hby
      obtain ⟨i, hi1, hi2, hi3, hi4⟩ := info_parts infoU8k
      have HI := Lib.hid (show i.zero = some (.int .u8 0) ∧ i.size = 1 ∧ i.bytes = 1 from ⟨hi2, hi3, hi4⟩)
      have HI1 := Lib.hid hi1; clear hi1 hi2 hi3 hi4
      have hsz : B ≤ wr.heap.size := by have := hW.out.size; have := HB.out; omega
      go_wp2_with (refine wpList_append_lies _ rfl _ _ 81 rfl B 5 i (.int .u8 0) 1 1 hTu8k HI1.out HI.out.1 HI.out.2.1 HI.out.2.2 rfl (by decide) _ q _ rfl (own_below hR.out (alloc_below _ _)) ⟨wr.heap.size, 0, none⟩ 1 1 [_] rfl rfl (World.news_of_block (Blk.new wr _ 5)) (by intro u hu; simp at hu; rw [hu]; rfl) (by decide) (by unfold maxLen; omega) (by omega) (by simp; omega) _ rfl ?_)
      intro g5 cap5 w9 m1 m2 m3 m4
      have x2 : Below B w w9 := grown_below (base := B) (hW.out.alloc hsz _) (own_below hR.out (alloc_below wr _)) m2 (by simp; omega)
      have y2 : w9.ownsRow B 5 1 (.slice (some ⟨g5, 0, none⟩) (q + 1) cap5) (q + 1) ((le (q + 1) n).map byv) := by
        rw [HLE.out, List.map_append]
        show w9.ownsRow B 5 1 _ _ ((le q n).map byv ++ [byv (UInt8.ofNat m)])
        rw [HBY.out]
        exact m1
      have X2 := Lib.hid x2; clear x2
      have Y2 := Lib.hid y2; clear y2 m1 m2 m3 hR hW
      go_wp2
      go_roundw
      case rel => exact ⟨q + 1, by omega, by go_num, by rw [HDV.out]; go_num, Y2, X2⟩
      case measure => simp [jInt]; omega
    · obtain rfl : q = many := by omega
      go_wp2
      go_ret
      exact ⟨_, rfl, hR.out, hW.out⟩
set_option maxRecDepth 100000 in
theorem checked_any (w : World) (s : List UInt8) (sa : Option Addr) (ca : Nat) (hs : Sl w 1 (.slice sa s.length ca) s.length (s.map byv)) (hl : s.length ≤ 64)
    (hK : Cells w 0 0 (Kt.map U)) (h0 : 0 < w.heap.size) : Calls Tryz.prog 80 #[.slice sa s.length ca] w fun e w' => e = .returned (str (stamp s)) ∧ Below w.heap.size w w' := by
  have HSL := Lib.hid hs; clear hs
  go_enter Tryz.func80, Tryz.ntmps80
  go_wp2_with fail
  refine (rsum_any s sa ca w HSL.out (by omega) hK h0).mono ?_
  rintro e w1 ⟨rfl, b1⟩
  go_wp2_with (refine wpList_store_blk (ty := 125) (n := 32) (vs := (sha s).map byv) (Blk.new _ _ 125) rfl rfl rfl rfl rfl info32 (by simp [sha_length]) (by simp) (bytes_oneCell _) ?_)
  intro w2 hb2 ho2
  have b2 : Below w1.heap.size w1 w2 := ho2.below (alloc_below _ _) (Nat.le_refl _)
  have b3 : Below w.heap.size w w2 := b1.trans (b2.mono b1.size)
  obtain ⟨T, hT⟩ : ∃ T, T = w1.heap.size := ⟨_, rfl⟩
  rw [← hT] at hb2 ⊢
  have HB2 := Lib.hid hb2; clear hb2 hT b2 ho2 b1
  have hS2 := HSL.out.below b3
  have HB3 := Lib.hid b3; clear b3
  have e8 : ((sha s).take 8).length = 8 := by rw [List.length_take, sha_length]; rfl
  have hS3 := sl_part (sha s) HB2.out 0 8 32 (by rw [sha_length]; decide) (by decide)
  rw [List.drop_zero] at hS3
  have cv1 : ∀ n, (convert 81 9 (.slice sa s.length ca)).run Tryz.prog (w2.drewN n) = .ok (str s) (w2.drewN n) := fun n => conv22 _ _ s (hS2.below (below_drewN (Below.refl _ w2) n))
  have cv2 : ∀ n, (convert 81 9 (.slice (some ⟨T, 0, none⟩) 8 32)).run Tryz.prog (w2.drewN n) = .ok (str ((sha s).take 8)) (w2.drewN n) := fun n => conv22 _ _ _ (by have := hS3.below (below_drewN (Below.refl _ w2) n); exact this)
  have hst : s ++ (sha s).take 8 = stamp s := rfl
  have hll : (s ++ (sha s).take 8).length ≤ 72 := by rw [List.length_append, e8]; omega
  obtain ⟨t8, ht8⟩ : ∃ t8, t8 = (sha s).take 8 := ⟨_, rfl⟩
  rw [← ht8] at cv2 hst hll e8
  have HST := Lib.hid hst; clear hst ht8 hS2 hS3
  go_wp2_with fail
  refine wp_region_quiet_lit (by kernel_rfl) (by kernel_rfl) ?_
  iterate 6 (go_big_quiet_step (fail))
  refine wpQuiet_nil ?_
  rintro _ ⟨nq, rfl⟩
  go_wp2
  go_ret
  refine ⟨?_, below_drewN HB3.out nq⟩
  rw [← HST.out]
  show Ending.returned (.string (⟨s.toArray⟩ ++ ⟨t8.toArray⟩)) = .returned (str (s ++ t8))
  have e : (⟨s.toArray⟩ ++ ⟨t8.toArray⟩ : ByteArray) = ⟨(s ++ t8).toArray⟩ := by
    apply ByteArray.ext
    rw [ByteArray.data_append]
    simp
  rw [e]
end Go.Proofs.YtbmnbdkbgpajeaaGreatDoor
end
/- journal: the reference: the text of a step. -/
section
namespace Go.Jn
def txt (u : UInt8) (q : Nat) : List UInt8 := (List.range q).map fun k => u + UInt8.ofNat k
theorem txt_succ (u : UInt8) (q : Nat) : txt u (q + 1) = txt u q ++ [u + UInt8.ofNat q] := by unfold txt; rw [List.range_succ, List.map_append]; rfl
theorem txt_len (u : UInt8) (q : Nat) : (txt u q).length = q := by simp [txt]
theorem textOf_txt (z : Int) (u : UInt8) : textOf z u = txt u (max 0 (min z 8100)).toNat := rfl
end Go.Jn
namespace Go.Proofs.YtbmnbdkbgpajeaaGreatDoor
open Go.RowKit Go.Own Go.Jn Go.Disk Go.BigFrame Go.Sha
attribute [local irreducible] SqW
set_option maxRecDepth 100000 in
theorem rtext_any (w : World) (a b c z : Int) (u : UInt8) (pv : Value) : Calls Tryz.prog 27 #[.agg #[.int .i64 a, .int .i64 b, .int .i64 c, .int .i64 z, byv u, pv]] w fun e w' => e = .returned (str (textOf z u)) ∧ Below w.heap.size w w' := by
  rw [textOf_txt]
  obtain ⟨n, hn⟩ : ∃ n : Nat, n = (max 0 (min z 8100)).toNat := ⟨_, rfl⟩
  have hn2 : max 0 (min z 8100) = (n : Int) := by omega
  have hn3 : min (max z 0) 8100 = (n : Int) := by omega
  have hn9 : n ≤ 8100 := by omega
  rw [← hn]
  have HN := Lib.hid hn; clear hn hn2
  go_enter Tryz.func27, Tryz.ntmps27
  go_wp2_with fail
  obtain ⟨G, hG⟩ : ∃ G, G = w.heap.size := ⟨_, rfl⟩
  rw [← hG]
  obtain ⟨W1, hW1⟩ : ∃ W1, W1 = w.alloc (.cells #[.int .i64 a, .int .i64 b, .int .i64 c, .int .i64 z, byv u, pv] 56) := ⟨_, rfl⟩
  have bW : Below w.heap.size w W1 := by rw [hW1]; exact alloc_below _ _
  have kW : Blk W1 G [.int .i64 a, .int .i64 b, .int .i64 c, .int .i64 z, byv u, pv] 56 := by rw [hW1, hG]; exact Blk.new _ _ _
  have sW : W1.heap.size = G + 1 := by rw [hW1, hG, alloc_size]
  first | rw [← hW1] | skip
  have HBW := Lib.hid bW; clear bW
  have HSW := Lib.hid sW; clear sW
  have HW1 := Lib.hid hW1; clear hW1
  have HG := Lib.hid hG; clear hG
  go_loopw [4, 5] (fun v c wr => ∃ q : Nat, q ≤ n ∧ c = .int .i64 q ∧ Hid (wr.ownsRow (G + 1) 5 1 v q ((txt u q).map byv)) ∧ Hid (Below (G + 1) W1 wr)) (fun _ c _ => n - (jInt c).toNat)
  case atStart => exact ⟨0, Nat.zero_le _, rfl, Lib.hid (World.ownsRow_nil _ _ _ _), Lib.hid (Below.refl _ _)⟩
  case round =>
    obtain ⟨q, hq, rfl, hR, hW⟩ := hrel
    obtain ⟨so, co, rfl, _⟩ := own_slice hR.out
    have kr := (kW.below hW.out (Nat.lt_succ_self G))
    have cf : wr.cell? ⟨G, 4, none⟩ = some (byv u) := kr.cell rfl
    have hGl := kr.lt
    have HK := Lib.hid kr; clear kr
    by_cases hlt : q < n
    · have hlc : (q : Int) < n := by omega
      have hle := txt_succ u q
      have hby : byv (u + UInt8.ofNat q) = .int .u8 (((u.toNat : Int) + (q : Int)) % 256) := by
        unfold byv
        rw [UInt8.toNat_add, UInt8.toNat_ofNat']
        congr 1
        push_cast
        omega
      have HLE := Lib.hid hle; clear hle
      have HBY := Lib.hid hby; clear hby
      obtain ⟨i, hi1, hi2, hi3, hi4⟩ := info_parts infoU8k
      have HI := Lib.hid (show i.zero = some (.int .u8 0) ∧ i.size = 1 ∧ i.bytes = 1 from ⟨hi2, hi3, hi4⟩)
      have HI1 := Lib.hid hi1; clear hi1 hi2 hi3 hi4
      have hsz : G + 1 ≤ wr.heap.size := by omega
      have hsw : W1.heap.size = G + 1 := HSW.out
      go_wp2_with (refine wpList_append_lies _ rfl _ _ 81 rfl (G + 1) 5 i (.int .u8 0) 1 1 hTu8k HI1.out HI.out.1 HI.out.2.1 HI.out.2.2 rfl (by decide) _ q _ rfl (own_below hR.out (alloc_below _ _)) ⟨wr.heap.size, 0, none⟩ 1 1 [_] rfl rfl (World.news_of_block (Blk.new wr _ 5)) (by intro u hu; simp at hu; rw [hu]; rfl) (by decide) (by unfold maxLen; omega) (by omega) (by simp; omega) _ rfl ?_)
      intro g5 cap5 w9 m1 m2 m3 m4
      have x2 : Below (G + 1) W1 w9 := grown_below (base := G + 1) (hW.out.alloc hsz _) (own_below hR.out (alloc_below wr _)) m2 (by simp; omega)
      have y2 : w9.ownsRow (G + 1) 5 1 (.slice (some ⟨g5, 0, none⟩) (q + 1) cap5) (q + 1) ((txt u (q + 1)).map byv) := by
        rw [HLE.out, List.map_append]
        show w9.ownsRow (G + 1) 5 1 _ _ ((txt u q).map byv ++ [byv (u + UInt8.ofNat q)])
        rw [HBY.out]
        exact m1
      have X2 := Lib.hid x2; clear x2
      have Y2 := Lib.hid y2; clear y2 m1 m2 m3 hR hW
      go_wp2
      go_roundw
      case rel => exact ⟨q + 1, by omega, by go_num, Y2, X2⟩
      case measure => simp [jInt]; omega
    · obtain rfl : n = q := by omega
      have hs : Sl wr 1 (.slice so (txt u n).length co) (txt u n).length ((txt u n).map byv) := by rw [txt_len]; exact Sl.of_owns hR.out
      have hcv : (convert 81 9 (.slice so n co)).run Tryz.prog wr = .ok (str (txt u n)) wr := by
        have := conv22 wr _ _ hs
        rw [txt_len] at this
        exact this
      go_wp2
      go_ret
      refine ⟨rfl, ?_⟩
      have h1 := HBW.out
      have h2 := hW.out
      have h3 := HG.out
      rw [h3] at h2
      exact h1.trans (h2.mono (by omega))
end Go.Proofs.YtbmnbdkbgpajeaaGreatDoor
end
/- journal: steps in memory; a disk that was only worn. -/
section
namespace Go.Jn
open Go.Disk Go.Own Go.RowKit
structure Stm where
  kind : Int
  i : Int
  bit : Int
  size : Int
  fill : UInt8
  picks : List Int
  sp : Option Addr
  pc : Nat
def stcells (x : Stm) : List Value := [.int .i64 x.kind, .int .i64 x.i, .int .i64 x.bit, .int .i64 x.size, byv x.fill, .slice x.sp x.picks.length x.pc]
def Stm.text (x : Stm) : List UInt8 := textOf x.size x.fill
theorem Stm.text_len (x : Stm) : x.text.length ≤ 8100 := by
  unfold Stm.text
  rw [textOf_txt, txt_len]
  omega
/-- Steps in memory. -/
structure StAt (w : World) (v : Value) (l : List Stm) : Prop where
  sl : Sl w 6 v l.length (l.flatMap stcells)
  pk : ∀ x ∈ l, x.picks ≠ [] → Sl w 1 (.slice x.sp x.picks.length x.pc) x.picks.length (x.picks.map fun z => .int .i64 z)
  rng : ∀ x ∈ l, -9223372036854775808 ≤ x.i ∧ x.i ≤ 9223372036854775807
theorem StAt.below {w w' : World} {v : Value} {l : List Stm} (h : StAt w v l) (hb : Below w.heap.size w w') : StAt w' v l :=
  ⟨h.sl.below hb, fun x hx hne => (h.pk x hx hne).below hb, h.rng⟩
theorem stcells_at (l : List Stm) (k : Nat) (x : Stm) (hx : l[k]? = some x) : ((l.flatMap stcells).drop (k * 6)).take 6 = stcells x := by
  induction l generalizing k with
  | nil => simp at hx
  | cons y s ih =>
    have h5 : (stcells y).length = 6 := rfl
    cases k with
    | zero =>
      obtain rfl : y = x := by simpa using hx
      rw [List.flatMap_cons, Nat.zero_mul, List.drop_zero, ← h5, List.take_left]
    | succ k =>
      have := ih k (by simpa using hx)
      rw [List.flatMap_cons, show (k + 1) * 6 = (stcells y).length + k * 6 by rw [h5]; omega, List.drop_length_add_append]
      exact this
theorem StAt.cells {w : World} {v : Value} {l : List Stm} (h : StAt w v l) {k : Nat} {x : Stm} (hx : l[k]? = some x) : ∃ b off cap, v = .slice (some ⟨b, off, none⟩) l.length cap ∧ Cells w b (off + k * 6) (stcells x) ∧ b < w.heap.size := by
  have hk : k < l.length := (List.getElem?_eq_some_iff.1 hx).1
  obtain ⟨_, ⟨_, h0⟩ | ⟨b, off, cap, rfl, _, _, hC, hlt⟩⟩ := h.sl
  · omega
  · refine ⟨b, off, cap, rfl, ?_, hlt⟩
    have := hC.sub (k * 6) 6
    rw [stcells_at l k x hx] at this
    exact this
/-- A disk on which nothing was written. -/
structure Fr (d : DS) (n : Nat) : Prop where
  off : d.off = false
  left : d.left = -1
  len : d.s.length = n
  z : ∀ x ∈ d.s, x.t = Disk.zeros ∧ x.p = none
theorem mem_mod {α : Type} (f : α → α) : ∀ (l : List α) (i : Nat) (x : α), x ∈ l.modify i f → x ∈ l ∨ ∃ y ∈ l, x = f y
  | [], i, x, h => by simp at h
  | a :: l, 0, x, h => by
    rw [List.modify_zero_cons] at h
    rcases List.mem_cons.1 h with h | h
    · exact .inr ⟨a, List.mem_cons_self .., h⟩
    · exact .inl (List.mem_cons_of_mem _ h)
  | a :: l, i + 1, x, h => by
    rw [List.modify_succ_cons] at h
    rcases List.mem_cons.1 h with h | h
    · exact .inl (by rw [h]; exact List.mem_cons_self ..)
    · rcases mem_mod f l i x h with h | ⟨y, hy, h⟩
      · exact .inl (List.mem_cons_of_mem _ h)
      · exact .inr ⟨y, List.mem_cons_of_mem _ hy, h⟩
theorem Fr.fresh (n : Nat) : Fr (Disk.fresh n) n := ⟨rfl, rfl, by simp [Disk.fresh], fun x hx => by
  rw [List.eq_of_mem_replicate hx]; exact ⟨rfl, rfl⟩⟩
theorem Fr.wear {d : DS} {n : Nat} (h : Fr d n) (i : Int) : Fr (awear d i).2 n := by
  unfold awear
  split
  · refine ⟨h.off, h.left, by unfold upd; rw [List.length_modify]; exact h.len, fun x hx => ?_⟩
    rcases mem_mod _ _ _ _ hx with hx | ⟨y, hy, rfl⟩
    · exact h.z x hx
    · exact h.z y hy
  · exact h
theorem Fr.start {d : DS} {n : Nat} (h : Fr d n) : found (d.s.map cont) = ⟨[], [], 1, 0, false⟩ ∧ Inv d ⟨[], [], 1, 0, false⟩ [] d.s := by
  obtain ⟨_, h2, h3⟩ := Inv.start h.off h.left h.z
  refine ⟨?_, h3⟩
  unfold aopen at h2
  rw [h.off, if_neg Bool.false_ne_true] at h2
  exact Option.some.inj h2
end Go.Jn
namespace Go.Proofs.YtbmnbdkbgpajeaaGreatDoor
open Go.RowKit Go.Own Go.Jn Go.Disk Go.BigFrame Go.Sha
theorem aggSt : (match Tryz.prog.underlying 56 with | some (.struct _) | some (.array _ _) => true | _ => false) = true := by kernel_rfl
theorem infoSt : (Tryz.prog.info? 56).map (·.size) = some 6 := by kernel_rfl
/-- A disk of the call's own. -/
structure Dk (w W : World) (f : Ft) (d : DS) : Prop where
  pd : PD W f d
  b : Below w.heap.size w W
  hf : ∀ x ∈ f.all, w.heap.size ≤ x
theorem Dk.below {w W W' : World} {f : Ft} {d : DS} (h : Dk w W f d) (hb : Below W.heap.size W W') : Dk w W' f d := ⟨h.pd.below hb, h.b.trans (hb.mono h.b.size), h.hf⟩
theorem Dk.wear {w W : World} {f : Ft} {d : DS} (h : Dk w W f d) (i : Int) : Calls Tryz.prog 34 #[.pointer (some ⟨f.p, 0, none⟩), .int .i64 i] W fun e w' => e = .returned (.int .i64 (awear d i).1) ∧ Dk w w' f (awear d i).2 := by
  refine (wear_any f d i W h.pd).mono ?_
  rintro e w' ⟨rfl, h2, h3⟩
  exact ⟨rfl, h2, h.b.trans (h3.below h.b.size h.hf), h.hf⟩
theorem rtext_st (x : Stm) (w : World) : Calls Tryz.prog 27 #[.agg (stcells x).toArray] w fun e w' => e = .returned (str x.text) ∧ Below w.heap.size w w' :=
  rtext_any w x.kind x.i x.bit x.size x.fill _
end Go.Proofs.YtbmnbdkbgpajeaaGreatDoor
end
/- Arguments opened: slices of structs, nested slices of numbers. Any program. -/
section
namespace Go.Own
open Go.ChangeShapes Go.WideShapes Go.ChangeAt Go.RowKit Go.Deep
section
variable {H : Type} {enc : TypeId × Value → H} {P : Program} {W : World}
theorem mapM_cells {w : World} {a : Addr} : ∀ {n : Nat} {cs : List Value}, ((List.range n).mapM fun i => w.cell? (a.add i)) = some cs → cs.length = n ∧ ∀ i v, cs[i]? = some v → w.cell? (a.add i) = some v := by
  intro n cs h
  have h1 := mapM_some_length h
  rw [List.length_range] at h1
  refine ⟨h1, fun i v hi => ?_⟩
  have hlt : i < n := by have := (List.getElem?_eq_some_iff.1 hi).1; omega
  have := mapM_some_get h i i (by simp [hlt])
  rw [this, hi]
/-- A slice of structs: its cells, element by element, each of which reads. -/
theorem sl_of_structs {r : Reach} {b0 : Nat} {t e : TypeId} {s : Nat} {v : Value} {d : DataW H} {ps : List MemPlace} (ht : P.underlying t = some (.slice e)) (hc : P.cellsOf e = s)
    (hval : Value.okWide P W r b0 t v) (hd : DataW.Trod enc P W 0 (fun _ => true) true t v d ps) :
    ∃ L : List (List Value), Sl W s v L.length L.flatten ∧ L.length ≤ maxLen ∧ ∀ cs ∈ L, cs.length = s ∧ ∃ n y, DataW.trod enc P W 0 (fun _ => true) true n e cs = some y := by
  obtain ⟨fuel, hf⟩ := hd
  have hno : ∀ xs, v ≠ .agg xs := by
    intro xs hv; subst hv
    unfold Value.okWide at hval
    rw [ht] at hval
    have hv' : Cell.okWide P W r b0 t (.agg xs) := hval
    unfold Cell.okWide at hv'; rw [ht] at hv'
    have h2 : Cell.ok P W r b0 t (.agg xs) := hv'
    unfold Cell.ok at h2; rw [ht] at h2; exact h2
  rcases open_slice ht hf with ⟨hcs, _⟩ | ⟨a, len, cap, m, n, D, Pl, hcs, _, hl, hm, hmm, _, hx⟩
  · have hv : v = .slice none 0 0 := by
      cases v <;> simp [Value.cells] at hcs
      case slice => rw [hcs.1, hcs.2.1, hcs.2.2]
      case agg xs => exact absurd rfl (hno xs)
    exact ⟨[], ⟨by simp, .inl ⟨hv, rfl⟩⟩, Nat.zero_le _, by simp⟩
  · have hv : v = .slice (some a) len cap := by
      cases v <;> simp [Value.cells] at hcs
      case slice => rw [hcs.1, hcs.2.1, hcs.2.2]
      case agg xs => exact absurd rfl (hno xs)
    subst hv
    obtain ⟨h1, h2⟩ := slice_okW ht hval
    obtain ⟨b, off, sp⟩ := a
    obtain rfl : sp = none := h1
    simp only [if_true] at hmm
    subst hmm
    rw [hc] at hx
    have each : ∀ i, i < len → ∃ cs, cs.length = s ∧ (∃ n y, DataW.trod enc P W 0 (fun _ => true) true n e cs = some y) ∧ ∀ j u, cs[j]? = some u → W.cell? ⟨b, off + i * s + j, none⟩ = some u := fun i hi => by
      obtain ⟨cs, h3, h4⟩ := hx i (by omega)
      unfold World.cells? at h3
      rw [if_pos (Nat.zero_le _)] at h3
      obtain ⟨h5, h6⟩ := mapM_cells h3
      refine ⟨cs, h5, ⟨n, _, h4⟩, fun j u hj => ?_⟩
      have := h6 j u hj
      rwa [Addr.add_lit, Addr.add_lit] at this
    obtain ⟨F, hF⟩ := choose_lt each
    refine ⟨(List.range len).map F, ?_, by simp; omega, fun cs hcs => ?_⟩
    · have hfl : ∀ k, k ≤ len → (((List.range k).map F).flatten).length = k * s := fun k => by
        induction k with
        | zero => intro _; simp
        | succ k ih =>
          intro hk
          rw [List.range_succ, List.map_append, List.flatten_append, List.length_append, ih (by omega)]
          simp [(hF k (by omega)).1]
          rw [Nat.add_mul, Nat.one_mul]
      have hcell : ∀ k, k ≤ len → Cells W b off (((List.range k).map F).flatten) := fun k => by
        induction k with
        | zero => intro _ i u hi; simp at hi
        | succ k ih =>
          intro hk i u hi
          rw [List.range_succ, List.map_append, List.flatten_append] at hi
          by_cases hlt : i < k * s
          · rw [List.getElem?_append_left (by rw [hfl k (by omega)]; exact hlt)] at hi
            exact ih (by omega) i u hi
          · rw [List.getElem?_append_right (by rw [hfl k (by omega)]; omega), hfl k (by omega)] at hi
            simp at hi
            have := (hF k (by omega)).2.2 (i - k * s) u hi
            rwa [show off + k * s + (i - k * s) = off + i by omega] at this
      have hlen : ((List.range len).map F).length = len := by simp
      rw [hlen]
      exact ⟨hfl len (Nat.le_refl _), .inr ⟨b, off, m, rfl, by omega, hm, hcell len (Nat.le_refl _), h2⟩⟩
    · obtain ⟨i, hi, rfl⟩ := List.mem_map.1 hcs
      have hi' := List.mem_range.1 hi
      exact ⟨(hF i hi').1, (hF i hi').2.1⟩
theorem choose_map {α β : Type} {f : α → β} {p : α → Prop} : ∀ {L : List β}, (∀ c ∈ L, ∃ x, c = f x ∧ p x) → ∃ l : List α, L = l.map f ∧ ∀ x ∈ l, p x
  | [], _ => ⟨[], rfl, by simp⟩
  | c :: L, h => by
    obtain ⟨l, h1, h2⟩ := choose_map (L := L) fun c hc => h c (List.mem_cons_of_mem _ hc)
    obtain ⟨x, h3, h4⟩ := h c List.mem_cons_self
    refine ⟨x :: l, by rw [h1, h3]; rfl, ?_⟩
    rintro y hy
    rcases List.mem_cons.1 hy with rfl | hy
    · exact h4
    · exact h2 y hy
/-- A nested slice of numbers: where it is not empty, it reads. -/
theorem ints_of_cell {t e : TypeId} {k : IntKind} {fuel : Nat} {c : Value} {x : DataW H × List MemPlace} (ht : P.underlying t = some (.slice e)) (he : P.underlying e = some (.int k)) (hc : P.cellsOf e = 1)
    (h : DataW.trod enc P W 0 (fun _ => true) true fuel t [c] = some x) :
    ∃ (zs : List Int) (sa : Option Addr) (cap : Nat), c = .slice sa zs.length cap ∧ (zs ≠ [] → Sl W 1 c zs.length (zs.map (.int k))) ∧ zs.length ≤ maxLen ∧ ∀ z ∈ zs, (Lit.int k z).wf = true := by
  rcases open_ints ht he hc h with ⟨hcs, _⟩ | ⟨a, len, cap, zs, hcs, _, hl, hm, hz, _, hcell, hwz⟩
  · obtain rfl : c = .slice none 0 0 := by simpa using hcs
    exact ⟨[], none, 0, rfl, fun h => absurd rfl h, Nat.zero_le _, by simp⟩
  · obtain rfl : c = .slice (some a) len cap := by simpa using hcs
    simp only [if_true] at hz
    have hll : (zs.take len).length = len := by simp; omega
    refine ⟨zs.take len, some a, cap, by rw [hll], fun hne => ?_, by omega, fun z hz' => hwz z (List.mem_of_mem_take hz')⟩
    have hpos : 0 < len := by
      rcases Nat.eq_zero_or_pos len with h | h
      · subst h; simp at hne
      · exact h
    have h0 := hcell 0 (by omega)
    have ha0 : a.add 0 = a := by simp [Addr.add]
    rw [ha0] at h0
    obtain ⟨b, off, sp⟩ := a
    have hsp : sp = none := by
      unfold World.cell? at h0
      cases sp with
      | none => rfl
      | some s => simp at h0; split at h0 <;> cases h0
    subst hsp
    have hlt := World.block_lt_of_cell? _ _ h0
    refine ⟨by simp, .inr ⟨b, off, cap, by rw [hll], by omega, hm, fun i u hi => ?_, hlt⟩⟩
    have hil : i < len ∧ i < zs.length := by
      have := (List.getElem?_eq_some_iff.1 hi).1
      simp at this; omega
    have h3 := hcell i hil.2
    rw [add_plain] at h3
    rw [h3, ← hi]
    simp [hil.1, hil.2]
theorem int_of_cell {t : TypeId} {k : IntKind} {fuel : Nat} {c : Value} {x : DataW H × List MemPlace} (ht : P.underlying t = some (.int k)) (h : DataW.trod enc P W 0 (fun _ => true) true fuel t [c] = some x) : ∃ z, c = .int k z ∧ (Lit.int k z).wf = true := by
  obtain ⟨n, h1, _, h2⟩ := DataW.trod_int ht h
  exact ⟨n, by simpa using h1, h2⟩
theorem string_of_cell {t : TypeId} {fuel : Nat} {c : Value} {x : DataW H × List MemPlace} (ht : P.underlying t = some .string) (h : DataW.trod enc P W 0 (fun _ => true) true fuel t [c] = some x) : ∃ s : List UInt8, c = str s ∧ s.length ≤ maxLen := by
  obtain ⟨s, h1, _, h2⟩ := DataW.trod_string ht h
  obtain rfl : c = .string s := by simpa using h1
  exact ⟨s.data.toList, rfl, by rw [Array.length_toList]; exact h2⟩
theorem trod_struct5 {w : World} {base : Nat} {spare : Nat → Bool} {held : Bool} {t : TypeId} {f0 f1 f2 f3 f4 : Field} {fuel : Nat} {cs : List Value} {x : DataW H × List MemPlace} (ht : P.underlying t = some (.struct #[f0, f1, f2, f3, f4])) (h : DataW.trod enc P w base spare held fuel t cs = some x) :
    ∃ y0 y1 y2 y3 y4 n, DataW.trod enc P w base spare held n f0.type ((cs.drop f0.offset).take (P.cellsOf f0.type)) = some y0 ∧
      DataW.trod enc P w base spare held n f1.type ((cs.drop f1.offset).take (P.cellsOf f1.type)) = some y1 ∧ DataW.trod enc P w base spare held n f2.type ((cs.drop f2.offset).take (P.cellsOf f2.type)) = some y2 ∧
      DataW.trod enc P w base spare held n f3.type ((cs.drop f3.offset).take (P.cellsOf f3.type)) = some y3 ∧ DataW.trod enc P w base spare held n f4.type ((cs.drop f4.offset).take (P.cellsOf f4.type)) = some y4 := by
  obtain ⟨xs, n, _, rfl, hl, hlen, hf⟩ := DataW.trod_struct ht h
  match xs, hlen with
  | [y0, y1, y2, y3, y4], _ => exact ⟨y0, y1, y2, y3, y4, n, by simpa using hf 0 f0 rfl, by simpa using hf 1 f1 rfl, by simpa using hf 2 f2 rfl, by simpa using hf 3 f3 rfl, by simpa using hf 4 f4 rfl⟩
end
end Go.Own
end
/- journal: steps handed over, opened. -/
section
namespace Go.Proofs.YtbmnbdkbgpajeaaGreatDoor
open Go.ChangeShapes Go.WideShapes Go.ChangeAt Go.RowKit Go.Own Go.Disk Go.Jn
theorem list6 {α : Type} {l : List α} (h : l.length = 6) : ∃ a b c d e f, l = [a, b, c, d, e, f] := by
  match l, h with
  | [a, b, c, d, e, f], _ => exact ⟨a, b, c, d, e, f, rfl⟩
theorem cellsInt : Tryz.prog.cellsOf 3 = 1 := by kernel_rfl
theorem cellsByte : Tryz.prog.cellsOf 5 = 1 := by kernel_rfl
theorem cellsInts : Tryz.prog.cellsOf 51 = 1 := by kernel_rfl
theorem cellsStp : Tryz.prog.cellsOf 56 = 6 := by kernel_rfl
section
variable {H : Type} {enc : TypeId × Value → H} {P : Program} {W : World}
theorem trodAll_five {w : World} {base : Nat} {spare : Nat → Bool} {held : Bool} {t0 t1 t2 t3 t4 : TypeId} {args : Array Value} {ds : List (DataW H)} {ps : List MemPlace} (h : DataW.TrodAll enc P w base spare held [t0, t1, t2, t3, t4] args.toList ds ps) :
    ∃ v0 v1 v2 v3 v4 d0 d1 d2 d3 d4 p0 p1 p2 p3 p4, args = #[v0, v1, v2, v3, v4] ∧ ds = [d0, d1, d2, d3, d4] ∧ ps = p0 ++ p1 ++ p2 ++ p3 ++ p4 ∧ DataW.Trod enc P w base spare held t0 v0 d0 p0 ∧ DataW.Trod enc P w base spare held t1 v1 d1 p1 ∧
      DataW.Trod enc P w base spare held t2 v2 d2 p2 ∧ DataW.Trod enc P w base spare held t3 v3 d3 p3 ∧ DataW.Trod enc P w base spare held t4 v4 d4 p4 := by
  obtain ⟨v0, vs0, d0, ds0, p0, q0, hargs, rfl, rfl, h0, r0⟩ := trodAll_cons h
  obtain ⟨v1, vs1, d1, ds1, p1, q1, rfl, rfl, rfl, h1, r1⟩ := trodAll_cons r0
  obtain ⟨v2, vs2, d2, ds2, p2, q2, rfl, rfl, rfl, h2, r2⟩ := trodAll_cons r1
  obtain ⟨v3, vs3, d3, ds3, p3, q3, rfl, rfl, rfl, h3, r3⟩ := trodAll_cons r2
  obtain ⟨v4, vs4, d4, ds4, p4, q4, rfl, rfl, rfl, h4, r4⟩ := trodAll_cons r3
  obtain ⟨rfl, rfl, rfl⟩ := trodAll_nil r4
  exact ⟨v0, v1, v2, v3, v4, d0, d1, d2, d3, d4, p0, p1, p2, p3, p4, by cases args; simp_all, rfl, by simp, h0, h1, h2, h3, h4⟩
theorem trod_struct6 {w : World} {base : Nat} {spare : Nat → Bool} {held : Bool} {t : TypeId} {f0 f1 f2 f3 f4 f5 : Field} {fuel : Nat} {cs : List Value} {x : DataW H × List MemPlace} (ht : P.underlying t = some (.struct #[f0, f1, f2, f3, f4, f5])) (h : DataW.trod enc P w base spare held fuel t cs = some x) :
    ∃ y0 y1 y2 y3 y4 y5 n, DataW.trod enc P w base spare held n f0.type ((cs.drop f0.offset).take (P.cellsOf f0.type)) = some y0 ∧
      DataW.trod enc P w base spare held n f1.type ((cs.drop f1.offset).take (P.cellsOf f1.type)) = some y1 ∧ DataW.trod enc P w base spare held n f2.type ((cs.drop f2.offset).take (P.cellsOf f2.type)) = some y2 ∧
      DataW.trod enc P w base spare held n f3.type ((cs.drop f3.offset).take (P.cellsOf f3.type)) = some y3 ∧ DataW.trod enc P w base spare held n f4.type ((cs.drop f4.offset).take (P.cellsOf f4.type)) = some y4 ∧
      DataW.trod enc P w base spare held n f5.type ((cs.drop f5.offset).take (P.cellsOf f5.type)) = some y5 := by
  obtain ⟨xs, n, _, rfl, hl, hlen, hf⟩ := DataW.trod_struct ht h
  match xs, hlen with
  | [y0, y1, y2, y3, y4, y5], _ => exact ⟨y0, y1, y2, y3, y4, y5, n, by simpa using hf 0 f0 rfl, by simpa using hf 1 f1 rfl, by simpa using hf 2 f2 rfl, by simpa using hf 3 f3 rfl, by simpa using hf 4 f4 rfl, by simpa using hf 5 f5 rfl⟩
end
section
variable {H : Type} {enc : TypeId × Value → H} {W : World}
set_option maxRecDepth 100000 in
theorem st_of_cells {fuel : Nat} {cs : List Value} {y : DataW H × List MemPlace} (hl : cs.length = 6) (h : DataW.trod enc Tryz.prog W 0 (fun _ => true) true fuel 56 cs = some y) :
    ∃ x : Stm, cs = stcells x ∧ (x.picks ≠ [] → Sl W 1 (.slice x.sp x.picks.length x.pc) x.picks.length (x.picks.map fun z => .int .i64 z)) ∧ (-9223372036854775808 ≤ x.i ∧ x.i ≤ 9223372036854775807) := by
  obtain ⟨c0, c1, c2, c3, c4, c5, rfl⟩ := list6 hl
  obtain ⟨y0, y1, y2, y3, y4, y5, n, h0, h1, h2, h3, h4, h5⟩ := trod_struct6 Tryz.underlying56 h
  dsimp only at h0 h1 h2 h3 h4 h5
  rw [cellsInt] at h0 h1 h2 h3
  rw [cellsByte] at h4
  rw [cellsInts] at h5
  simp only [List.drop_zero, List.drop_succ_cons, List.take_succ_cons, List.take_zero] at h0 h1 h2 h3 h4 h5
  obtain ⟨z0, rfl, w0⟩ := int_of_cell Tryz.underlying3 h0
  obtain ⟨z1, rfl, w1⟩ := int_of_cell Tryz.underlying3 h1
  obtain ⟨z2, rfl, w2⟩ := int_of_cell Tryz.underlying3 h2
  obtain ⟨z3, rfl, w3⟩ := int_of_cell Tryz.underlying3 h3
  obtain ⟨z4, rfl, w4⟩ := int_of_cell Tryz.underlying5 h4
  obtain ⟨m4, hm4⟩ := bytes_of_ints (zs := [z4]) (by intro z hz; simp at hz; subst hz; exact w4)
  obtain ⟨u4, rfl⟩ : ∃ u : UInt8, m4 = [u] := by
    match m4, hm4 with
    | [u], _ => exact ⟨u, rfl⟩
  obtain rfl : z4 = (u4.toNat : Int) := by simpa using hm4
  obtain ⟨zs, sa, cap, rfl, hS, _, _⟩ := ints_of_cell Tryz.underlying51 Tryz.underlying3 cellsInt h5
  refine ⟨⟨z0, z1, z2, z3, u4, zs, sa, cap⟩, rfl, hS, ?_⟩
  have := w1
  simp [Lit.wf, IntKind.min, IntKind.max, IntKind.signed, IntKind.bits] at this
  exact this
set_option maxRecDepth 100000 in
theorem st1_of {b0 : Nat} {r : Reach} {v : Value} {d : DataW H} {ps : List MemPlace} (hval : Value.okWide Tryz.prog W r b0 56 v) (h : DataW.Trod enc Tryz.prog W 0 (fun _ => true) true 56 v d ps) :
    ∃ x : Stm, v = .agg (stcells x).toArray ∧ (x.picks ≠ [] → Sl W 1 (.slice x.sp x.picks.length x.pc) x.picks.length (x.picks.map fun z => .int .i64 z)) := by
  obtain ⟨cs, rfl, hsz⟩ := okWide_struct Tryz.underlying56 hval
  obtain ⟨fuel, hf⟩ := h
  obtain ⟨x, hx, hp, _⟩ := st_of_cells (cs := cs.toList) (by rw [Array.length_toList, hsz, cellsStp]) hf
  exact ⟨x, by rw [← hx], hp⟩
theorem byte_of {z : Int} (h : (Lit.int .u8 z).wf = true) : ∃ u : UInt8, z = (u.toNat : Int) := by
  obtain ⟨m4, hm4⟩ := bytes_of_ints (zs := [z]) (by intro y hy; simp at hy; subst hy; exact h)
  match m4, hm4 with
  | [u], hm => exact ⟨u, by simpa using hm⟩
set_option maxRecDepth 100000 in
theorem st_of {b0 : Nat} {r : Reach} {v : Value} {d : DataW H} {ps : List MemPlace} (hval : Value.okWide Tryz.prog W r b0 40 v) (h : DataW.Trod enc Tryz.prog W 0 (fun _ => true) true 40 v d ps) :
    ∃ (l : List Stm) (sa : Option Addr) (cap : Nat), v = .slice sa l.length cap ∧ StAt W (.slice sa l.length cap) l := by
  obtain ⟨L, h1, h2, h3⟩ := sl_of_structs Tryz.underlying40 cellsStp hval h
  obtain ⟨l, rfl, hl⟩ := choose_map (f := stcells) (p := fun x => (x.picks ≠ [] → Sl W 1 (.slice x.sp x.picks.length x.pc) x.picks.length (x.picks.map fun z => .int .i64 z)) ∧ (-9223372036854775808 ≤ x.i ∧ x.i ≤ 9223372036854775807)) (L := L) fun cs hcs => by
    obtain ⟨hl, n, y, hy⟩ := h3 cs hcs
    exact st_of_cells hl hy
  rw [List.length_map] at h1
  obtain ⟨sa, cap, rfl, _⟩ := sl_slice h1
  exact ⟨l, sa, cap, rfl, h1, fun x hx => (hl x hx).1, fun x hx => (hl x hx).2⟩
end
end Go.Proofs.YtbmnbdkbgpajeaaGreatDoor
end
/- SHA-256 of 4096 messages at once: the laws of the lanes. No program. -/
section
namespace Go.Bn
open Go.Sha
/-- numbers side by side -/
def pk : Nat → (Nat → Nat) → Nat
  | 0, _ => 0
  | n + 1, f => f 0 + 18446744073709551616 * pk n fun i => f (i + 1)
theorem lane_bit {x X : Nat} (hx : x < 18446744073709551616) (j : Nat) : (x + 18446744073709551616 * X).testBit j = if j < 64 then x.testBit j else X.testBit (j - 64) := by
  rw [Nat.add_comm]; exact Nat.testBit_two_pow_mul_add X (i := 64) hx j
theorem lane_xor {x y X Y : Nat} (hx : x < 18446744073709551616) (hy : y < 18446744073709551616) : (x + 18446744073709551616 * X) ^^^ (y + 18446744073709551616 * Y) = (x ^^^ y) + 18446744073709551616 * (X ^^^ Y) := by
  have h : x ^^^ y < 18446744073709551616 := Nat.xor_lt_two_pow (n := 64) hx hy
  refine Nat.eq_of_testBit_eq fun j => ?_
  rw [Nat.testBit_xor, lane_bit hx, lane_bit hy, lane_bit h]
  split <;> rw [Nat.testBit_xor]
theorem lane_and {x y X Y : Nat} (hx : x < 18446744073709551616) (hy : y < 18446744073709551616) : (x + 18446744073709551616 * X) &&& (y + 18446744073709551616 * Y) = (x &&& y) + 18446744073709551616 * (X &&& Y) := by
  have h : x &&& y < 18446744073709551616 := Nat.and_lt_two_pow (n := 64) x hy
  refine Nat.eq_of_testBit_eq fun j => ?_
  rw [Nat.testBit_and, lane_bit hx, lane_bit hy, lane_bit h]
  split <;> rw [Nat.testBit_and]
theorem lane_shr {x X m M r : Nat} (hx : x < 18446744073709551616) (hm : m < 4294967296) (hr : r ≤ 32) : ((x + 18446744073709551616 * X) >>> r) &&& (m + 18446744073709551616 * M) = ((x >>> r) &&& m) + 18446744073709551616 * ((X >>> r) &&& M) := by
  have h : (x >>> r) &&& m < 18446744073709551616 := Nat.lt_trans (Nat.and_lt_two_pow (n := 32) _ hm) (by decide)
  refine Nat.eq_of_testBit_eq fun j => ?_
  rw [Nat.testBit_and, Nat.testBit_shiftRight, lane_bit hx, lane_bit (Nat.lt_trans hm (by decide)), lane_bit h]
  by_cases hj : j < 64
  · rw [if_pos hj, if_pos hj, Nat.testBit_and, Nat.testBit_shiftRight]
    by_cases hj2 : r + j < 64
    · rw [if_pos hj2]
    · have h2 : m.testBit j = false := Nat.testBit_lt_two_pow (Nat.lt_of_lt_of_le hm (by rw [show 4294967296 = 2 ^ 32 from rfl]; exact Nat.pow_le_pow_right (by decide) (by omega)))
      rw [h2, Bool.and_false, Bool.and_false]
  · rw [if_neg hj, if_neg (by omega), if_neg hj, Nat.testBit_and, Nat.testBit_shiftRight, show r + j - 64 = r + (j - 64) by omega]
theorem pk_add : ∀ (n : Nat) (f g : Nat → Nat), pk n f + pk n g = pk n fun i => f i + g i
  | 0, _, _ => rfl
  | n + 1, f, g => by
    unfold pk
    rw [← pk_add n]
    generalize (pk n fun i => f (i + 1)) = a
    generalize (pk n fun i => g (i + 1)) = b
    dsimp only
    omega
theorem pk_mul : ∀ (n : Nat) (f : Nat → Nat) (c : Nat), pk n f * c = pk n fun i => f i * c
  | 0, _, c => by simp [pk]
  | n + 1, f, c => by
    unfold pk
    rw [← pk_mul n, Nat.add_mul, Nat.mul_assoc]
theorem pk_xor : ∀ (n : Nat) (f g : Nat → Nat), (∀ i, i < n → f i < 18446744073709551616) → (∀ i, i < n → g i < 18446744073709551616) → pk n f ^^^ pk n g = pk n fun i => f i ^^^ g i
  | 0, _, _, _, _ => by simp [pk]
  | n + 1, f, g, hf, hg => by
    unfold pk
    rw [← pk_xor n _ _ (fun i hi => hf (i + 1) (by omega)) (fun i hi => hg (i + 1) (by omega))]
    exact lane_xor (hf 0 (by omega)) (hg 0 (by omega))
theorem pk_and : ∀ (n : Nat) (f g : Nat → Nat), (∀ i, i < n → f i < 18446744073709551616) → (∀ i, i < n → g i < 18446744073709551616) → pk n f &&& pk n g = pk n fun i => f i &&& g i
  | 0, _, _, _, _ => by simp [pk]
  | n + 1, f, g, hf, hg => by
    unfold pk
    rw [← pk_and n _ _ (fun i hi => hf (i + 1) (by omega)) (fun i hi => hg (i + 1) (by omega))]
    exact lane_and (hf 0 (by omega)) (hg 0 (by omega))
theorem pk_shr {m r : Nat} (hm : m < 4294967296) (hr : r ≤ 32) : ∀ (n : Nat) (f : Nat → Nat), (∀ i, i < n → f i < 18446744073709551616) → (pk n f >>> r) &&& (pk n fun _ => m) = pk n fun i => (f i >>> r) &&& m
  | 0, _, _ => by unfold pk; simp
  | n + 1, f, hf => by
    unfold pk
    rw [← pk_shr hm hr n _ (fun i hi => hf (i + 1) (by omega))]
    exact lane_shr (hf 0 (by omega)) hm hr
theorem pk_congr : ∀ (n : Nat) (f g : Nat → Nat), (∀ i, i < n → f i = g i) → pk n f = pk n g
  | 0, _, _, _ => rfl
  | n + 1, f, g, h => by
    unfold pk
    rw [h 0 (by omega), pk_congr n _ _ fun i hi => h (i + 1) (by omega)]
theorem pk_inj : ∀ (n : Nat) (f g : Nat → Nat), (∀ i, i < n → f i < 18446744073709551616) → (∀ i, i < n → g i < 18446744073709551616) → pk n f = pk n g → ∀ i, i < n → f i = g i
  | 0, _, _, _, _, _, i, hi => by omega
  | n + 1, f, g, hf, hg, h, i, hi => by
    unfold pk at h
    have h0 := hf 0 (by omega)
    have h1 := hg 0 (by omega)
    have e1 : f 0 = g 0 := by omega
    have e2 : (pk n fun i => f (i + 1)) = pk n fun i => g (i + 1) := by omega
    cases i with
    | zero => exact e1
    | succ i => exact pk_inj n _ _ (fun i hi => hf (i + 1) (by omega)) (fun i hi => hg (i + 1) (by omega)) e2 i (by omega)
theorem pk_len : ∀ (n m : Nat) (f : Nat → Nat), pk (n + m) f = pk n f + pk m (fun i => f (n + i)) <<< (64 * n)
  | 0, m, f => by simp [pk]
  | n + 1, m, f => by
    rw [show n + 1 + m = n + m + 1 by omega, show ∀ q (f : Nat → Nat), pk (q + 1) f = f 0 + 18446744073709551616 * pk q fun i => f (i + 1) from fun _ _ => rfl, show pk (n + 1) f = f 0 + 18446744073709551616 * pk n fun i => f (i + 1) from rfl]
    rw [pk_len n m, Nat.shiftLeft_eq, Nat.shiftLeft_eq, show 64 * (n + 1) = 64 * n + 64 by omega, Nat.pow_add, show (2 : Nat) ^ 64 = 18446744073709551616 from rfl]
    have e : (fun i => f (n + i + 1)) = fun i => f (n + 1 + i) := by funext i; rw [show n + i + 1 = n + 1 + i by omega]
    rw [e]
    generalize 2 ^ (64 * n) = t
    generalize (pk m fun i => f (n + 1 + i)) = a
    have e2 : 18446744073709551616 * (a * t) = a * (t * 18446744073709551616) := by rw [Nat.mul_left_comm, Nat.mul_comm 18446744073709551616 t]
    rw [Nat.mul_add, e2, Nat.add_assoc]
end Go.Bn
end
