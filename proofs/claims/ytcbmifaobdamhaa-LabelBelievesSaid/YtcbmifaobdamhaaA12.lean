/- label: the program's given, masks. -/
import Derived.Test.YtcbmifaobdamhaaA9
import Derived.Test.YtcbmifaobdamhaaP1
import Derived.Test.YtcbmifaobdamhaaIu
namespace Go.Label
open Go.RowKit Go.Own
/-- a base lies in memory, and its box too -/
structure Box (w W1 : World) (b : Lg) (sa sr : Option Addr) (ca cr : Nat) : Prop where
  b1 : Below w.heap.size w W1
  z1 : w.heap.size < W1.heap.size
  sz : W1.heap.size = w.heap.size + 1
  cell : ∀ W, Below W1.heap.size W1 W → W.cell? ⟨w.heap.size, 0, none⟩ = some (.int .i64 b.facts) ∧ W.cell? ⟨w.heap.size, 1, none⟩ = some (.slice sa b.assume.length ca) ∧ W.cell? ⟨w.heap.size, 2, none⟩ = some (.slice sr b.rules.length cr)
theorem box_new (w : World) (b : Lg) (sa sr : Option Addr) (ca cr : Nat) (t : TypeId) : Box w (w.alloc (.cells #[.int .i64 b.facts, .slice sa b.assume.length ca, .slice sr b.rules.length cr] t)) b sa sr ca cr :=
  ⟨alloc_below w _, by simp, by simp, fun W hW => by
    have hB := Blk.new w #[.int .i64 b.facts, .slice sa b.assume.length ca, .slice sr b.rules.length cr] t
    have hB2 := hB.below hW hB.lt
    exact ⟨hB2.cell rfl, hB2.cell rfl, hB2.cell rfl⟩⟩
theorem Box.below {w W1 : World} {b : Lg} {sa sr : Option Addr} {ca cr : Nat} (h : Box w W1 b sa sr ca cr) {W : World} (hW : Below W1.heap.size W1 W) : Below w.heap.size w W := h.b1.trans (hW.mono (Nat.le_of_lt h.z1))
theorem getD_eq {α : Type} {l : List α} {i : Nat} (d : α) (h : i < l.length) : l.getD i d = l[i] := by rw [List.getD_eq_getElem?_getD, List.getElem?_eq_getElem h]; rfl
/-- the facts of a body, as bits -/
def mskN (l : List Int) : Nat → Nat
  | 0 => 0
  | k + 1 => mskN l k ||| 2 ^ (l.getD k 0).toNat
def msk (l : List Int) : Nat := mskN l l.length
theorem mskN_bit (l : List Int) (f : Nat) : ∀ n, n ≤ l.length → ((mskN l n).testBit f = true ↔ ∃ k, k < n ∧ (l.getD k 0).toNat = f)
  | 0, _ => by simp [mskN]
  | n + 1, h => by
    unfold mskN
    rw [or_bit, mskN_bit l f n (by omega)]
    constructor
    · rintro (⟨k, h1, h2⟩ | e)
      · exact ⟨k, by omega, h2⟩
      · exact ⟨n, by omega, e.symm⟩
    · rintro ⟨k, h1, h2⟩
      by_cases e : k = n
      · subst e; exact .inr h2.symm
      · exact .inl ⟨k, by omega, h2⟩
theorem mskN_lt {l : List Int} (h : ∀ f ∈ l, 0 ≤ f ∧ f < 64) : ∀ n, n ≤ l.length → mskN l n < 18446744073709551616
  | 0, _ => Nat.succ_pos _
  | n + 1, hn => by
    have h1 := h _ (getD_mem (l := l) (i := n) (d := 0) (by omega))
    unfold mskN
    exact or_lt (mskN_lt h n (by omega)) (by omega)
theorem bdy_msk {l : List Int} (h : ∀ f ∈ l, 0 ≤ f ∧ f < 64) (K : Nat) : (Ib.diff (msk l) K = 0) ↔ bdy l K = true := by
  unfold bdy msk
  rw [Ib.diff0 (mskN_lt h _ (Nat.le_refl _))]
  rw [List.all_eq_true]
  constructor
  · intro h1 f hf
    obtain ⟨k, hk, rfl⟩ := List.getElem_of_mem hf
    exact h1 _ ((mskN_bit l _ _ (Nat.le_refl _)).2 ⟨k, hk, by rw [getD_eq 0 hk]⟩)
  · intro h1 f hf
    obtain ⟨k, hk, rfl⟩ := (mskN_bit l _ _ (Nat.le_refl _)).1 hf
    exact h1 _ (getD_mem hk)
end Go.Label
namespace Go.Proofs.Ytcbmifaobdamhaa
open Go.RowKit Go.Own Go.Theory Go.BigFrame Go.Ib Go.Label Go.Shelf
set_option maxRecDepth 100000 in
theorem given_any (b : Lg) (s : Nat) (sa sr : Option Addr) (ca cr : Nat) (bs : List Value) (ok : Ok b) (hs : s < 65536) (w : World) (h : LgAt w b sa sr ca cr bs) :
    Calls Try.prog 37 #[lgV b sa sr ca cr, .int .i64 s] w fun e w' => e = .returned (.int .u64 (giv b s)) ∧ Below w.heap.size w w' := by
  unfold lgV
  have hbox := box_new w b sa sr ca cr 25
  obtain ⟨W1, hW1⟩ : ∃ W1, W1 = w.alloc (.cells #[.int .i64 b.facts, .slice sa b.assume.length ca, .slice sr b.rules.length cr] 25) := ⟨_, rfl⟩
  rw [← hW1] at hbox
  have hH := h.below hbox.b1
  have HBOX := Lib.hid hbox; clear hbox
  have HH := Lib.hid hH; clear hH h
  have HW1 := Lib.hid hW1; clear hW1
  have HOK := Lib.hid ok
  have a16 := ok.a16
  clear ok
  obtain ⟨n, hn⟩ : ∃ n, n = b.assume.length := ⟨_, rfl⟩
  rw [← hn] at a16 HW1 ⊢
  have HN := Lib.hid hn; clear hn
  obtain ⟨G, hG⟩ : ∃ G, G = giv b s := ⟨_, rfl⟩
  rw [← hG]
  have HG := Lib.hid hG; clear hG
  go_enter Try.func37, Try.ntmps37
  go_wp2
  rw [← HW1.out]
  go_loopw [5, 11] (fun v5 vi wq => ∃ k : Nat, k ≤ n ∧ vi = .int .i64 k ∧ v5 = .int .u64 (givN b s k : Nat) ∧ wq = W1) (fun _ vi _ => n - (vInt vi).toNat)
  case atStart => exact ⟨0, by omega, rfl, rfl, rfl⟩
  case round =>
    obtain ⟨k, hk, rfl, rfl, rfl⟩ := hrel
    by_cases h1 : k < n
    · have h1' : (k : Int) < n := by omega
      obtain ⟨g, o, rfl, _, _, hC, hlt⟩ := sl_at (HH.out.asm (by have := HN.out; omega)) (by have := HN.out; omega)
      obtain ⟨f, hf⟩ : ∃ f : Nat, b.assume.getD k 0 = f := ⟨(b.assume.getD k 0).toNat, by
        have := HOK.out.asm _ (getD_mem (l := b.assume) (i := k) (d := 0) (by have := HN.out; omega)); omega⟩
      have hf64 : f < 64 := by
        have := HOK.out.asm _ (getD_mem (l := b.assume) (i := k) (d := 0) (by have := HN.out; omega))
        have := HOK.out.f64; omega
      have ck : wr.cell? ⟨g, o + k, none⟩ = some (.int .i64 f) := hC k _ (by
        rw [← hf, getD_eq 0 (by have := HN.out; omega)]
        have := HN.out
        simp [show k < b.assume.length by omega])
      have HF := Lib.hid hf; clear hf hC
      have hK := givN_lt HOK.out s k (by have := HN.out; omega)
      have hK1 : givN b s (k + 1) = if s.testBit k then givN b s k ||| 2 ^ f else givN b s k := by
        conv => lhs; unfold givN
        rw [HF.out]; rfl
      have hand := and1 (s := s) (k := k) (by omega)
      have hp := wu_pow hf64
      have hp2 := pow64 hf64
      obtain ⟨K, hKe⟩ : ∃ K, K = givN b s k := ⟨_, rfl⟩
      rw [← hKe] at hK hK1 ⊢
      have HK1 := Lib.hid hK1; clear hK1 hKe
      cases htb : s.testBit k with
      | true =>
        rw [htb, if_pos rfl] at hand
        obtain ⟨M, hM⟩ : ∃ M, M = 2 ^ f := ⟨_, rfl⟩
        rw [← hM] at hp hp2
        have HM := Lib.hid hM; clear hM
        have hor := bu_or K M hK hp2
        have HT := Lib.hid htb; clear htb
        go_wp2
        go_roundw
        case rel => exact ⟨k + 1, by omega, by go_num, by rw [HK1.out, HT.out, if_pos rfl, ← HM.out], trivial⟩
        case measure => simp [vInt]; omega
      | false =>
        rw [htb, if_neg Bool.false_ne_true] at hand
        have HT := Lib.hid htb; clear htb
        clear hp hp2
        go_wp2
        go_roundw
        case rel => exact ⟨k + 1, by omega, by go_num, by rw [HK1.out, HT.out, if_neg Bool.false_ne_true], trivial⟩
        case measure => simp [vInt]; omega
    · have h1' : (n : Int) ≤ k := by omega
      obtain rfl : k = n := by omega
      have e : givN b s k = G := by rw [HG.out, HN.out]; rfl
      rw [e]
      clear e
      go_wp2
      go_ret
      exact ⟨rfl, HBOX.out.b1⟩
end Go.Proofs.Ytcbmifaobdamhaa
/- label: the program's masks. -/
namespace Go.Label
open Go.RowKit Go.Own
/-- cells by a function -/
def rm (n : Nat) (f : Nat → Value) : List Value := (List.range n).map f
theorem rm_get {n : Nat} {f : Nat → Value} {i : Nat} (h : i < n) : (rm n f)[i]? = some (f i) := by simp [rm, h]
theorem rm_set {n : Nat} {f : Nat → Value} (i : Nat) (v : Value) : (rm n f).set i v = rm n (fun j => if j = i then v else f j) := by
  apply List.ext_getElem?
  intro j
  unfold rm
  rw [List.getElem?_set]
  simp only [List.getElem?_map, List.length_map, List.length_range]
  by_cases h1 : i = j
  · subst h1
    by_cases h2 : i < n
    · rw [if_pos rfl, if_pos h2, List.getElem?_range h2]; simp
    · rw [if_pos rfl, if_neg h2]; simp [h2]
  · rw [if_neg h1]
    by_cases h2 : j < n
    · rw [List.getElem?_range h2]; simp; intro e; exact absurd e.symm h1
    · simp [h2]
theorem rm_congr {n : Nat} {f g : Nat → Value} (h : ∀ i, i < n → f i = g i) : rm n f = rm n g := by
  unfold rm
  exact List.map_congr_left fun i hi => h i (List.mem_range.1 hi)
theorem rm_rep (n : Nat) (v : Value) : List.replicate n v = rm n fun _ => v := by
  apply List.ext_getElem?
  intro j
  unfold rm
  by_cases h : j < n
  · simp [h]
  · simp [h]
theorem rm_map {α : Type} (l : List α) (d : α) (f : α → Value) : l.map f = rm l.length fun j => f (l.getD j d) := by
  apply List.ext_getElem?
  intro j
  unfold rm
  by_cases h : j < l.length
  · simp [h]
  · simp [h]
def mkF (b : Lg) (i m : Nat) (j : Nat) : Value := .int .u64 (if j < i then msk (b.rules.getD j rl0).body else if j = i then m else 0 : Nat)
theorem mkF_next (b : Lg) (i : Nat) : mkF b i (msk (b.rules.getD i rl0).body) = mkF b (i + 1) 0 := by
  funext j
  unfold mkF
  by_cases h1 : j < i
  · rw [if_pos h1, if_pos (by omega)]
  · by_cases h2 : j = i
    · subst h2; rw [if_neg h1, if_pos rfl, if_pos (by omega)]
    · rw [if_neg h1, if_neg h2, if_neg (by omega), ite_self]
end Go.Label
namespace Go.Proofs.Ytcbmifaobdamhaa
open Go.RowKit Go.Own Go.Theory Go.BigFrame Go.Ib Go.Label Go.Shelf
theorem mk_u64s (n : Nat) (hn : n ≤ 1000000) (u : World) : (Instr.makeSlice 57 (.int .i64 n) (.int .i64 n)).run Try.prog u = .ok (.slice (some ⟨u.heap.size, 0, none⟩) n n) (u.alloc (.cells (Array.replicate n (.int .u64 0)) 54)) :=
  run_make_one (.int .u64 0) 8 (by kernel_rfl) (by kernel_rfl) rfl n (by omega) (by unfold maxLen; omega) u
set_option maxRecDepth 100000 in
theorem masks_any (b : Lg) (sa sr : Option Addr) (ca cr : Nat) (bs : List Value) (ok : Ok b) (w : World) (h : LgAt w b sa sr ca cr bs) :
    Calls Try.prog 36 #[lgV b sa sr ca cr] w fun e w' => ∃ G, w.heap.size ≤ G ∧ e = .returned (.slice (some ⟨G, 0, none⟩) b.rules.length b.rules.length) ∧ Blk w' G (b.rules.map fun r => .int .u64 (msk r.body : Nat)) 54 ∧ Below w.heap.size w w' := by
  unfold lgV
  have hbox := box_new w b sa sr ca cr 25
  obtain ⟨W1, hW1⟩ : ∃ W1, W1 = w.alloc (.cells #[.int .i64 b.facts, .slice sa b.assume.length ca, .slice sr b.rules.length cr] 25) := ⟨_, rfl⟩
  rw [← hW1] at hbox
  have hH := h.below hbox.b1
  have HBOX := Lib.hid hbox
  obtain ⟨c0, c1, c2⟩ := hbox.cell W1 (Below.refl _ _)
  have z0 := hbox.z1
  have zs := hbox.sz
  clear hbox
  have HH := Lib.hid hH; clear hH h
  have HW1 := Lib.hid hW1; clear hW1
  have HOK := Lib.hid ok
  have r64 := ok.r64
  clear ok
  obtain ⟨n, hn⟩ : ∃ n, n = b.rules.length := ⟨_, rfl⟩
  have HN := Lib.hid hn
  rw [← hn] at r64 c2 HW1 ⊢
  clear hn
  have hmk := mk_u64s n (by omega)
  obtain ⟨W2, hW2⟩ : ∃ W2, W2 = W1.alloc (.cells (Array.replicate n (.int .u64 0)) 54) := ⟨_, rfl⟩
  have b2 : Below W1.heap.size W1 W2 := by rw [hW2]; exact alloc_below _ _
  have hg : Blk W2 (w.heap.size + 1) (rm n (mkF b 0 0)) 54 := by
    rw [hW2]
    have := blk_make W1 n (.int .u64 0) 54
    rw [rm_rep] at this
    rw [← zs]
    rw [show mkF b 0 0 = fun _ => Value.int .u64 0 from funext fun j => by unfold mkF; simp]
    exact this
  clear c0 c1 c2
  have HB2 := Lib.hid b2; clear b2
  have HG := Lib.hid hg; clear hg
  have HW2 := Lib.hid hW2; clear hW2
  go_enter Try.func36, Try.ntmps36
  go_wp2
  rw [← HW1.out, ← HW2.out]
  clear hmk
  go_loopw [15] (fun vi wq => ∃ i : Nat, i ≤ n ∧ vi = .int .i64 i ∧ Blk wq (w.heap.size + 1) (rm n (mkF b i 0)) 54 ∧ Below W1.heap.size W1 wq) (fun vi _ => n - (vInt vi).toNat)
  case atStart => exact ⟨0, by omega, rfl, HG.out, HB2.out⟩
  case round =>
    clear HG HB2 HW2
    obtain ⟨i, hi, rfl, hg, hbq⟩ := hrel
    have HG := Lib.hid hg; clear hg
    have HBQ := Lib.hid hbq; clear hbq
    by_cases h1 : i < n
    · have h1' : (i : Int) < n := by omega
      have h1n : i < b.rules.length := by have := HN.out; omega
      obtain ⟨g, o, sb, cb, rfl, hc, hbd⟩ := HH.out.rule h1n
      obtain ⟨k0, k1⟩ := hc wr HBQ.out
      have HBD := Lib.hid hbd; clear hbd hc
      obtain ⟨bl, hbl⟩ : ∃ bl, bl = b.rules[i].body := ⟨_, rfl⟩
      obtain ⟨hd, hhd⟩ : ∃ hd, hd = b.rules[i].head := ⟨_, rfl⟩
      rw [← hbl] at k1
      rw [← hhd] at k0
      have hb16 : bl.length ≤ 16 := by rw [hbl]; exact HOK.out.long _ (List.getElem_mem h1n)
      have HBL := Lib.hid hbl; clear hbl hhd
      obtain ⟨wa, hwa⟩ : ∃ wa, wa = wr := ⟨_, rfl⟩
      subst hwa
      obtain ⟨W3, hW3⟩ : ∃ W3, W3 = wa.alloc (.cells #[.int .i64 hd, .slice sb bl.length cb] 61) := ⟨_, rfl⟩
      have b3 : Below W1.heap.size W1 W3 := by rw [hW3]; exact HBQ.out.alloc HBQ.out.size _
      have hg3 : Blk W3 (w.heap.size + 1) (rm n (mkF b i 0)) 54 := by rw [hW3]; exact HG.out.alloc _
      have hW3' : wa.alloc (.cells #[.int .i64 hd, .slice sb bl.length cb] 61) = W3 := hW3.symm
      have HW3 := Lib.hid hW3'; clear hW3' hW3
      have HB3 := Lib.hid b3; clear b3
      have HG3 := Lib.hid hg3; clear hg3
      go_wp2
      rw [HW3.out]
      clear k0 k1
      go_loopw [23] (fun vi wq => ∃ k : Nat, k ≤ bl.length ∧ vi = .int .i64 k ∧ Blk wq (w.heap.size + 1) (rm n (mkF b i (mskN bl k))) 54 ∧ Below W1.heap.size W1 wq) (fun vi _ => bl.length - (vInt vi).toNat)
      case atStart => exact ⟨0, by omega, rfl, HG3.out, HB3.out⟩
      case round =>
        obtain ⟨k, hk, rfl, hg, hbq⟩ := hrel
        by_cases h2 : k < bl.length
        · have h2' : (k : Int) < bl.length := by omega
          have hbd := HBD.out
          rw [← HBL.out] at hbd
          obtain ⟨g2, o2, rfl, _, _, hC, hlt⟩ := sl_at (hbd (by omega)) (by omega)
          have hx64 : 0 ≤ bl[k] ∧ bl[k] < 64 := by
            have h := HOK.out.body _ (List.getElem_mem h1n) bl[k] (by rw [← HBL.out]; exact List.getElem_mem h2)
            have := HOK.out.f64
            omega
          obtain ⟨f, hf⟩ : ∃ f : Nat, bl[k] = f := ⟨bl[k].toNat, by omega⟩
          have hf64 : f < 64 := by omega
          have cx : wr.cell? ⟨g2, o2 + k, none⟩ = some (.int .i64 f) := (hC.below hbq hlt) k _ (by simp [h2, hf])
          have hK := mskN_lt (l := bl) (fun x hx => by
            have h := HOK.out.body _ (List.getElem_mem h1n) x (by rw [← HBL.out]; exact hx)
            have := HOK.out.f64
            omega) k (by omega)
          have hK1 : mskN bl (k + 1) = mskN bl k ||| 2 ^ f := by
            conv => lhs; unfold mskN
            rw [getD_eq 0 h2, hf]; rfl
          have hp := wu_pow hf64
          have hp2 := pow64 hf64
          obtain ⟨K, hKe⟩ : ∃ K, K = mskN bl k := ⟨_, rfl⟩
          rw [← hKe] at hK hK1 hg
          obtain ⟨M, hM⟩ : ∃ M, M = 2 ^ f := ⟨_, rfl⟩
          rw [← hM] at hp hp2 hK1
          have hor := bu_or K M hK hp2
          have cO : wr.cell? ⟨w.heap.size + 1, i, none⟩ = some (.int .u64 K) := hg.cell (by rw [rm_get h1]; unfold mkF; simp)
          have cF : wr.frozen? ⟨w.heap.size + 1, i, none⟩ = false := hg.frozen i
          have HK1 := Lib.hid hK1; clear hK1 hKe hM
          have HG := Lib.hid hg; clear hg
          have HBQ2 := Lib.hid hbq; clear hbq hbd hC hf hx64
          go_wp2
          refine wp_region_tail 8 (by kernel_rfl) (by kernel_rfl) ?_
          simp only [List.take_succ_cons, List.take_zero, List.drop_succ_cons, List.drop_zero]
          repeat (go_big_quiet_step (fail))
          refine wpQuiet_nil ?_
          intro nq2
          go_wp2
          go_roundw
          case rel =>
            refine ⟨k + 1, by omega, by go_num, ?_, below_set (below_drewN HBQ2.out nq2) (Nat.le_refl _) (by omega) _ _⟩
            have h := (HG.out.drewN nq2).set i (.int .u64 (K ||| M : Nat))
            rw [rm_set] at h
            rw [HK1.out]
            have e : (fun j => if j = i then Value.int .u64 ((K ||| M : Nat) : Int) else mkF b i K j) = mkF b i (K ||| M) := by
              funext j
              unfold mkF
              by_cases e1 : j = i
              · subst e1; rw [if_pos rfl, if_neg (by omega), if_pos rfl]
              · rw [if_neg e1, if_neg e1]
                by_cases e2 : j < i
                · rw [if_pos e2, if_pos e2]
                · rw [if_neg e2, if_neg e2, if_neg e1]
            rw [e] at h
            exact h
          case measure => simp [vInt]; omega
        · obtain rfl : k = bl.length := by omega
          have h2' : (bl.length : Int) ≤ bl.length := by omega
          have HG := Lib.hid hg; clear hg
          have HBQ2 := Lib.hid hbq; clear hbq
          go_wp2
          go_roundw
          case rel =>
            refine ⟨i + 1, by omega, by go_num, ?_, HBQ2.out⟩
            rw [← mkF_next, getD_eq rl0 h1n, ← HBL.out]
            exact HG.out
          case measure => simp [vInt]; omega
    · have h1' : (n : Int) ≤ i := by omega
      obtain rfl : i = n := by omega
      go_wp2
      go_ret
      have hb := HBOX.out.below HBQ.out
      refine ⟨w.heap.size + 1, by omega, by rw [HN.out]; rfl, ?_, hb⟩
      rw [rm_map b.rules rl0]
      have h := HG.out
      rw [rm_congr (g := fun j => Value.int .u64 (msk (b.rules.getD j rl0).body : Nat)) (fun j hj => by unfold mkF; rw [if_pos hj])] at h
      rw [← HN.out]
      exact h
end Go.Proofs.Ytcbmifaobdamhaa
/- label: the program's closed. -/
namespace Go.Label
open Go.RowKit Go.Own
theorem fix_down {b : Lg} {K i : Nat} (h : rndN b K (i + 1) = K) : rndN b K i = K := by
  have h1 := rndN_le b K 0 i (by omega)
  have h2 := rndN_le b K i (i + 1) (by omega)
  rw [h] at h2
  exact Nat.le_antisymm h2 h1
/-- how far the rounds are from their end -/
def msC (a b : Int) : Nat := if a = b then 0 else 18446744073709551617 - b.toNat
theorem bad_snd {b : Lg} (ok : Ok b) {s K : Nat} (h : Snd b s K) {i : Nat} (hi : i < b.rules.length) (hb : bdy b.rules[i].body K = true) (hh : b.rules[i].head < 0) : badS b s = true := by
  unfold badS
  refine badK_mono (snd_sub ok h) ?_
  unfold badK
  exact List.any_eq_true.2 ⟨_, List.getElem_mem hi, by rw [hb, decide_eq_true hh]; rfl⟩
end Go.Label
namespace Go.Proofs.Ytcbmifaobdamhaa
open Go.RowKit Go.Own Go.Theory Go.BigFrame Go.Ib Go.Label Go.Shelf
set_option maxRecDepth 100000 in
set_option maxHeartbeats 4000000 in
theorem closed_any (b : Lg) (s : Nat) (sa sr sm : Option Addr) (ca cr cm : Nat) (bs : List Value) (ok : Ok b) (w : World) (h : LgAt w b sa sr ca cr bs) (hm : Sl w 1 (.slice sm b.rules.length cm) b.rules.length (b.rules.map fun r => .int .u64 (msk r.body : Nat))) :
    Calls Try.prog 35 #[lgV b sa sr ca cr, .slice sm b.rules.length cm, .int .u64 (giv b s : Nat)] w fun e w' => e = .returned (.tuple #[.int .u64 (fol b s : Nat), .bool (badS b s)]) ∧ Below w.heap.size w w' := by
  unfold lgV
  have hbox := box_new w b sa sr ca cr 25
  obtain ⟨W1, hW1⟩ : ∃ W1, W1 = w.alloc (.cells #[.int .i64 b.facts, .slice sa b.assume.length ca, .slice sr b.rules.length cr] 25) := ⟨_, rfl⟩
  rw [← hW1] at hbox
  have hH := h.below hbox.b1
  have hM := hm.below hbox.b1
  have HBOX := Lib.hid hbox
  have z0 := hbox.z1
  clear hbox hm
  have HH := Lib.hid hH; clear hH h
  have HM := Lib.hid hM; clear hM
  have HW1 := Lib.hid hW1; clear hW1
  have hK0 := givN_lt ok s _ (Nat.le_refl _)
  have HOK := Lib.hid ok
  have r64 := ok.r64
  clear ok
  obtain ⟨n, hn⟩ : ∃ n, n = b.rules.length := ⟨_, rfl⟩
  have HN := Lib.hid hn
  rw [← hn] at r64 HW1 ⊢
  clear hn
  obtain ⟨F, hF⟩ : ∃ F, F = fol b s := ⟨_, rfl⟩
  obtain ⟨Bd, hBd⟩ : ∃ Bd, Bd = badS b s := ⟨_, rfl⟩
  rw [← hF, ← hBd]
  have HF := Lib.hid hF; clear hF
  have HBd := Lib.hid hBd; clear hBd
  obtain ⟨K0, hKe⟩ : ∃ K0, K0 = giv b s := ⟨_, rfl⟩
  rw [← hKe]
  unfold giv at hKe
  rw [← hKe] at hK0
  have HK0 := Lib.hid hKe; clear hKe
  have hnot := bu_not_ne K0 hK0
  go_enter Try.func35, Try.ntmps35
  go_wp2
  rw [← HW1.out]
  go_loopw [2, 8, 9] (fun v2 v8 v9 wq => ∃ (K : Nat) (bad : Bool) (old : Int), v2 = .int .u64 K ∧ v8 = .bool bad ∧ v9 = .int .u64 old ∧ K < 18446744073709551616 ∧ Snd b s K ∧ (∀ f, (giv b s).testBit f = true → K.testBit f = true) ∧ (bad = true → badS b s = true) ∧ (old = K → rnd b K = K ∧ (badK b K = true → bad = true)) ∧ Below W1.heap.size W1 wq)
    (fun v2 _ v9 _ => msC (vInt v9) (vInt v2))
  case atStart =>
    refine ⟨K0, false, _, rfl, rfl, rfl, hK0, by rw [HK0.out]; exact giv_snd b s, (fun f h => by rw [HK0.out]; exact h), (fun h => absurd h Bool.false_ne_true), (fun h => ?_), Below.refl _ _⟩
    have hnot' : (bits .xor .u64 IntKind.u64.max (K0 : Int) == (K0 : Int)) = false := hnot
    rw [h] at hnot'
    simp at hnot'
  case round =>
    clear hnot hK0 HK0
    obtain ⟨K, bad, old, rfl, rfl, rfl, hK, hs, hg, hb, ho, hbq⟩ := hrel
    have HS := Lib.hid hs; clear hs
    have HG := Lib.hid hg; clear hg
    have HB := Lib.hid hb; clear hb
    have HO := Lib.hid ho; clear ho
    have HBQ := Lib.hid hbq
    obtain ⟨c0, c1, c2⟩ := HBOX.out.cell wr hbq
    rw [← HN.out] at c2
    clear hbq
    by_cases hold : old = K
    · subst hold
      have e1 : K = F := by rw [HF.out]; exact fol_eq HOK.out HS.out HG.out (HO.out rfl).1
      have e2 : bad = Bd := by
        rw [HBd.out, Bool.eq_iff_iff]
        exact ⟨HB.out, fun h => (HO.out rfl).2 (by unfold badS at h; rw [← HF.out, ← e1] at h; exact h)⟩
      rw [e1, e2]
      clear e1 e2
      go_wp2
      refine bodyPost_ret (results_tmp2 rfl _ _ _) rfl ?_
      exact ⟨rfl, HBOX.out.below HBQ.out⟩
    · have hne : (old == (K : Int)) = false := by simpa using hold
      have hne2 : (old = (K : Int)) = False := eq_false hold
      clear hold
      go_wp2
      go_loopw [2, 8, 21] (fun v2 v8 vi wq => ∃ (i : Nat) (bad : Bool), i ≤ n ∧ vi = .int .i64 i ∧ v2 = .int .u64 (rndN b K i : Nat) ∧ v8 = .bool bad ∧ (bad = true → badS b s = true) ∧ (rndN b K i = K → ∀ j (hj : j < b.rules.length), j < i → bdy b.rules[j].body K = true → b.rules[j].head < 0 → bad = true) ∧ Below W1.heap.size W1 wq)
        (fun _ _ vi _ => n - (vInt vi).toNat)
      case atStart => exact ⟨0, bad, by omega, rfl, rfl, rfl, HB.out, fun _ j hj h => absurd h (by omega), HBQ.out⟩
      case round =>
        clear c0 c1 c2 HBQ HB HO
        obtain ⟨i, bad, hi, rfl, rfl, rfl, hb, hc, hbq⟩ := hrel
        have HB := Lib.hid hb; clear hb
        have HC := Lib.hid hc; clear hc
        have HBQ := Lib.hid hbq; clear hbq
        by_cases h1 : i < n
        · have h1' : (i : Int) < n := by omega
          have h1n : i < b.rules.length := by have := HN.out; omega
          obtain ⟨g, o, sb, cb, rfl, hc, hbd⟩ := HH.out.rule h1n
          obtain ⟨k0, k1⟩ := hc wr HBQ.out
          clear hbd hc
          have hmm := HM.out
          obtain ⟨gm, om, rfl, _, _, hCm, hlm⟩ := sl_at hmm (by omega)
          obtain ⟨M, hMe⟩ : ∃ M, M = msk b.rules[i].body := ⟨_, rfl⟩
          have cm1 : wr.cell? ⟨gm, om + i, none⟩ = some (.int .u64 M) := (hCm.below HBQ.out hlm) i _ (by simp [h1n, hMe])
          have zm : gm < wr.heap.size := Nat.lt_of_lt_of_le hlm HBQ.out.size
          have zw : w.heap.size < wr.heap.size := Nat.lt_of_lt_of_le z0 HBQ.out.size
          clear hmm hCm
          have hb64 : ∀ f ∈ b.rules[i].body, 0 ≤ f ∧ f < 64 := fun f hf => by
            have h := HOK.out.body _ (List.getElem_mem h1n) f hf
            have := HOK.out.f64
            omega
          have hM64 : M < 18446744073709551616 := by rw [hMe]; exact mskN_lt hb64 _ (Nat.le_refl _)
          have hKi := rndN_lt HOK.out hK i (by omega)
          have hKs := rndN_snd HS.out i (by omega)
          have hstp : rndN b K (i + 1) = stp b.rules[i] (rndN b K i) := by
            conv => lhs; unfold rndN
            rw [getD_eq rl0 h1n]
          have hbm := bdy_msk hb64 (rndN b K i)
          rw [← hMe] at hbm
          have hdown : rndN b K (i + 1) = K → rndN b K i = K := fix_down
          obtain ⟨Ki, hKe⟩ : ∃ Ki, Ki = rndN b K i := ⟨_, rfl⟩
          rw [← hKe] at hKi hKs hstp hbm hdown ⊢
          obtain ⟨hd, hhd⟩ : ∃ hd, hd = b.rules[i].head := ⟨_, rfl⟩
          obtain ⟨bl, hbl⟩ : ∃ bl, bl = b.rules[i].body.length := ⟨_, rfl⟩
          have hdr := HOK.out.head _ (List.getElem_mem h1n)
          have hf64 := HOK.out.f64
          rw [← hhd] at k0 hdr
          rw [← hbl] at k1
          have hand := bu_andNot M Ki hM64 hKi
          obtain ⟨D, hD⟩ : ∃ D, D = diff M Ki := ⟨_, rfl⟩
          rw [← hD] at hand hbm
          have HHD := Lib.hid hhd; clear hhd
          have HKe := Lib.hid hKe; clear hKe
          have HST := Lib.hid hstp; clear hstp
          have HBM := Lib.hid hbm; clear hbm
          have HKS := Lib.hid hKs; clear hKs
          have HDN := Lib.hid hdown; clear hdown
          clear hMe hb64 hbl hM64 hD
          by_cases hD0 : D = 0
          · subst hD0
            have hbt := HBM.out.1 rfl
            have HBT := Lib.hid hbt; clear hbt
            by_cases hh : hd < 0
            · go_wp2
              go_roundw
              case rel =>
                have e : rndN b K (i + 1) = Ki := by
                  rw [HST.out]; unfold stp; rw [← HHD.out, decide_eq_false (by omega), Bool.and_false]; rfl
                refine ⟨i + 1, true, by omega, by go_num, by rw [e], rfl, fun _ => ?_, fun _ _ _ _ _ _ => rfl, HBQ.out.alloc HBQ.out.size _⟩
                exact bad_snd HOK.out HKS.out h1n HBT.out (by rw [← HHD.out]; exact hh)
              case measure => simp [vInt]; omega
            · obtain ⟨m, rfl⟩ : ∃ m : Nat, hd = m := ⟨hd.toNat, by omega⟩
              have hm64 : m < 64 := by omega
              have hp := wu_pow hm64
              have hp2 := pow64 hm64
              have e : rndN b K (i + 1) = Ki ||| 2 ^ m := by
                rw [HST.out]; unfold stp; rw [← HHD.out, decide_eq_true (by omega), HBT.out]; rfl
              obtain ⟨P, hP⟩ : ∃ P, P = 2 ^ m := ⟨_, rfl⟩
              rw [← hP] at hp hp2 e
              have hor := bu_or Ki P hKi hp2
              have EE := Lib.hid e; clear e hP
              have hneg : ((m : Int) < 0) = False := eq_false (by omega)
              go_wp2
              go_roundw
              case rel =>
                refine ⟨i + 1, bad, by omega, by go_num, by rw [EE.out], rfl, HB.out, fun h j hj hji hbj hhj => ?_, HBQ.out.alloc HBQ.out.size _⟩
                by_cases ej : j = i
                · subst ej; rw [← HHD.out] at hhj; omega
                · exact HC.out (by rw [← HKe.out]; exact HDN.out h) j hj (by omega) hbj hhj
              case measure => simp [vInt]; omega
          · have hD1 : ((D : Int) = 0) = False := eq_false (by omega)
            have hD2 : ((D : Int) == 0) = false := by simpa using hD0
            have hbf : ¬ bdy b.rules[i].body Ki = true := fun h => hD0 (HBM.out.2 h)
            have HBF := Lib.hid hbf; clear hbf hD0
            go_wp2
            go_roundw
            case rel =>
              have e : rndN b K (i + 1) = Ki := by
                rw [HST.out]; unfold stp; rw [if_neg]; intro h; rw [Bool.and_eq_true] at h; exact HBF.out h.1
              refine ⟨i + 1, bad, by omega, by go_num, by rw [e], rfl, HB.out, fun h j hj hji hbj hhj => ?_, HBQ.out.alloc HBQ.out.size _⟩
              by_cases ej : j = i
              · subst ej
                have := HDN.out h
                rw [this] at HBF
                exact absurd hbj HBF.out
              · exact HC.out (by rw [← HKe.out]; exact HDN.out h) j hj (by omega) hbj hhj
            case measure => simp [vInt]; omega
        · have h1' : (n : Int) ≤ i := by omega
          obtain rfl : i = n := by omega
          go_wp2
          go_roundw
          case rel =>
            have er : rndN b K i = rnd b K := by unfold rnd; rw [← HN.out]
            refine ⟨rndN b K i, bad, K, rfl, rfl, rfl, rndN_lt HOK.out hK i (by have := HN.out; omega), rndN_snd HS.out i (by have := HN.out; omega), fun f h => rndN_bits (HG.out f h) i, HB.out, fun h => ?_, HBQ.out⟩
            have h' : rndN b K i = K := by omega
            rw [h']
            refine ⟨by rw [← er]; exact h', fun hb => ?_⟩
            unfold badK at hb
            obtain ⟨r, hr, hb2⟩ := List.any_eq_true.1 hb
            obtain ⟨j, hj, rfl⟩ := List.getElem_of_mem hr
            rw [Bool.and_eq_true, decide_eq_true_eq] at hb2
            exact HC.out h' j hj (by have := HN.out; omega) hb2.1 hb2.2
          case measure =>
            have h1 := rndN_le b K 0 i (by omega)
            rw [show rndN b K 0 = K from rfl] at h1
            have h2 := rndN_lt HOK.out hK i (by have := HN.out; omega)
            have h3 : ¬ old = (K : Int) := by simpa using hne
            show msC (K : Int) ((rndN b K i : Nat) : Int) < msC old (K : Int)
            unfold msC
            rw [if_neg h3]
            split <;> omega
end Go.Proofs.Ytcbmifaobdamhaa
