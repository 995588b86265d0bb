/- label: the reference's Ranks. -/
import Derived.Test.YtcbmifaobdamhaaP9
import Derived.Test.YtcbmifaobdamhaaA15
namespace Go.Label
open Go.RowKit Go.Own Go.Proofs.Ytcbmifaobdamhaa
def opI : Option Nat → Int
  | none => -1
  | some v => v
/-- a cell with the rank of a slot -/
def rkC (F : Nat) (rk : Pm) (k : Nat) : Value := .int .i64 (opI (rk (slF F k)))
theorem rkC_set {F N j : Nat} (rk : Pm) (v : Nat) (hN : N = F + 1) (h : j < N) : (rm N (rkC F rk)).set j (.int .i64 (v : Nat)) = rm N (rkC F fun f => if f = slF F j then some v else rk f) := by
  rw [rm_set]
  refine rm_congr fun k hk => ?_
  unfold rkC
  by_cases e : k = j
  · subst e; rw [if_pos rfl]; show _ = Value.int .i64 (opI (if slF F k = slF F k then some v else _)); rw [if_pos rfl]; rfl
  · have e2 : slF F k ≠ slF F j := fun h' => e (slF_inj (by omega) (by omega) h')
    rw [if_neg e]; show _ = Value.int .i64 (opI (if slF F k = slF F j then some v else _)); rw [if_neg e2]
theorem opI_neg {o : Option Nat} : decide (opI o < 0) = o.isNone := by
  cases o with
  | none => rfl
  | some v => exact decide_eq_false (by show ¬ (v : Int) < 0; omega)
/-- the ranks within a round -/
def midK (b : Lg) (rk : Pm) (r i : Nat) : Pm := fun f => if (fndN b rk i f).isSome then some r else rk f
def midS (b : Lg) (rk rs : Pm) (i : Nat) : Pm := fun f => match fndN b rk i f with | some v => some v | none => rs f
theorem midK_zero (b : Lg) (rk : Pm) (r : Nat) : midK b rk r 0 = rk := by funext f; simp [midK, fndN]
theorem midS_zero (b : Lg) (rk rs : Pm) : midS b rk rs 0 = rs := by funext f; simp [midS, fndN]
theorem midK_none {b : Lg} {rk : Pm} {r i : Nat} {f : Int} : (midK b rk r i f).isNone = ((rk f).isNone && (fndN b rk i f).isNone) := by
  unfold midK
  cases fndN b rk i f <;> cases rk f <;> rfl
theorem midK_some {b : Lg} {rk : Pm} {r i : Nat} {f : Int} (hle : ∀ f t, rk f = some t → t < r) : (decide (0 ≤ opI (midK b rk r i f)) && decide (opI (midK b rk r i f) < r)) = (rk f).isSome := by
  unfold midK
  cases hf : fndN b rk i f with
  | some v =>
    have := (fndN_full _ hf).2.2.1
    rw [this]
    simp [opI]
  | none =>
    cases hr : rk f with
    | none => simp [opI]
    | some t =>
      have := hle f t hr
      simp [opI]; omega
theorem rkC_more {b : Lg} {rk : Pm} {F r i j : Nat} {hd : Int} (hN : j ≤ F) (hj : slF F j = hd) (h : newR rk (fndN b rk i) (b.rules.getD i rl0) = true) (hh : (b.rules.getD i rl0).head = hd) :
    (fun f => if f = slF F j then some r else midK b rk r i f) = midK b rk r (i + 1) := by
  funext f
  unfold midK
  rw [fnd_more h, hj, hh]
  by_cases e : f = hd
  · simp [e]
  · simp [e]
theorem rsC_more {b : Lg} {rk rs : Pm} {F i j : Nat} {hd : Int} (hj : slF F j = hd) (h : newR rk (fndN b rk i) (b.rules.getD i rl0) = true) (hh : (b.rules.getD i rl0).head = hd) :
    (fun f => if f = slF F j then some i else midS b rk rs i f) = midS b rk rs (i + 1) := by
  funext f
  unfold midS
  rw [fnd_more h, hj, hh]
  by_cases e : f = hd
  · simp [e]
  · simp [e]
end Go.Label
namespace Go.Proofs.Ytcbmifaobdamhaa
open Go.RowKit Go.Own Go.Theory Go.BigFrame Go.Ib Go.Label Go.Shelf
theorem mk_ints (n : Nat) (hn : n ≤ 1000000) (u : World) : (Instr.makeSlice 22 (.int .i64 n) (.int .i64 n)).run Try.prog u = .ok (.slice (some ⟨u.heap.size, 0, none⟩) n n) (u.alloc (.cells (Array.replicate n (.int .i64 0)) 3)) :=
  run_make_one (.int .i64 0) 8 (by kernel_rfl) (by kernel_rfl) rfl n (by omega) (by unfold maxLen; omega) u
/-- two rows of ranks and reasons -/
structure RR (w W : World) (G F : Nat) (rk rs : Pm) : Prop where
  a : Blk W G (rm (F + 1) (rkC F rk)) 3
  r : Blk W (G + 1) (rm (F + 1) (rkC F rs)) 3
  b : Below w.heap.size w W
theorem RR.setK {w W : World} {G F : Nat} {rk rs : Pm} (h : RR w W G F rk rs) (hG : w.heap.size ≤ G) {j : Nat} (hj : j < F + 1) (v : Nat) : RR w (W.setCell ⟨G, j, none⟩ (.int .i64 v)) G F (fun f => if f = slF F j then some v else rk f) rs :=
  ⟨by have := h.a.set j (.int .i64 v); rwa [rkC_set rk v rfl hj] at this, h.r.chg ((Chg.refl [G] W).set _ (by simp)) (by simp), below_set h.b (Nat.le_refl _) hG j _⟩
theorem RR.setS {w W : World} {G F : Nat} {rk rs : Pm} (h : RR w W G F rk rs) (hG : w.heap.size ≤ G) {j : Nat} (hj : j < F + 1) (v : Nat) : RR w (W.setCell ⟨G + 1, j, none⟩ (.int .i64 v)) G F rk (fun f => if f = slF F j then some v else rs f) :=
  ⟨h.a.chg ((Chg.refl [G + 1] W).set _ (by simp)) (by simp), by have := h.r.set j (.int .i64 v); rwa [rkC_set rs v rfl hj] at this, below_set h.b (Nat.le_refl _) (by omega) j _⟩
set_option maxRecDepth 100000 in
set_option maxHeartbeats 4000000 in
theorem rranks_any (b : Lg) (m : Nat) (F : Nat) (sa sr : Option Addr) (ca cr : Nat) (bs : List Value) (ok : Ok b) (hF : b.facts = F) (hm : m < 65536) (w : World) (h : LgAt w b sa sr ca cr bs) :
    Calls Try.prog 58 #[lgV b sa sr ca cr, .int .i64 m] w fun e w' => ∃ G, w.heap.size ≤ G ∧ e = .returned (.tuple #[.slice (some ⟨G, 0, none⟩) (F + 1) (F + 1), .slice (some ⟨G + 1, 0, none⟩) (F + 1) (F + 1)]) ∧ RR w w' G F (rkE b m) (rsE b m) := by
  unfold lgV
  have hbox := box_new w b sa sr ca cr 25
  obtain ⟨W1, hW1⟩ : ∃ W1, W1 = w.alloc (.cells #[.int .i64 b.facts, .slice sa b.assume.length ca, .slice sr b.rules.length cr] 25) := ⟨_, rfl⟩
  rw [← hW1] at hbox
  have hH := h.below hbox.b1
  have HBOX := Lib.hid hbox
  have z0 := hbox.z1
  have zs := hbox.sz
  clear hbox h
  have HH := Lib.hid hH; clear hH
  have HOK := Lib.hid ok
  have hf64 := ok.f64
  have a16 := ok.a16
  have r64 := ok.r64
  clear ok
  rw [hF] at hW1 hf64 ⊢
  obtain ⟨N, hN⟩ : ∃ N, N = F + 1 := ⟨_, rfl⟩
  have eN : (F : Int) + 1 = (N : Int) := by omega
  rw [← hN]
  have hfin : ∀ W, RR W1 W (w.heap.size + 1) F (rIter b m (F + 1)).1 (rIter b m (F + 1)).2 → RR w W (w.heap.size + 1) F (rkE b m) (rsE b m) := fun W hW => by
    unfold rkE rsE
    rw [show b.facts.toNat = F by omega]
    exact ⟨hW.a, hW.r, HBOX.out.below hW.b⟩
  have HFIN := Lib.hid hfin; clear hfin
  have HF := Lib.hid hF; clear hF
  have HW1 := Lib.hid hW1; clear hW1
  have hmk := mk_ints N (by omega)
  obtain ⟨W2, hW2⟩ : ∃ W2, W2 = (W1.alloc (.cells (Array.replicate N (.int .i64 0)) 3)).alloc (.cells (Array.replicate N (.int .i64 0)) 3) := ⟨_, rfl⟩
  have b2 : Below W1.heap.size W1 W2 := by rw [hW2]; exact (alloc_below _ _).alloc (by simp) _
  have hg : Blk W2 (w.heap.size + 1) (rm N fun _ => .int .i64 0) 3 := by
    rw [hW2, ← zs]
    have := blk_make W1 N (.int .i64 0) 3
    rw [rm_rep] at this
    exact this.below (alloc_below _ _) (by simp)
  have hg2 : Blk W2 (w.heap.size + 1 + 1) (rm N fun _ => .int .i64 0) 3 := by
    rw [hW2, ← zs]
    have := blk_make (W1.alloc (.cells (Array.replicate N (.int .i64 0)) 3)) N (.int .i64 0) 3
    rw [rm_rep, World.size_alloc] at this
    exact this
  have HB2 := Lib.hid b2; clear b2
  have HG := Lib.hid hg; clear hg
  have HG2 := Lib.hid hg2; clear hg2
  have HW2 := Lib.hid hW2; clear hW2
  have hN65 : N ≤ 65 := by omega
  have HN := Lib.hid hN; clear hN
  go_enter Try.func58, Try.ntmps58
  go_wp2
  rw [← HW1.out, ← HW2.out]
  clear hmk
  have hlt1 : w.heap.size < W1.heap.size := z0
  have hG1 : W1.heap.size ≤ w.heap.size + 1 := by omega
  obtain ⟨G, hGe⟩ : ∃ G, G = w.heap.size + 1 := ⟨_, rfl⟩
  rw [← hGe] at HG HG2 HFIN hG1
  simp only [← hGe]
  have HGE := Lib.hid hGe; clear hGe zs
  go_loopw [8] (fun vi wq => ∃ k : Nat, k ≤ N ∧ vi = .int .i64 k ∧ Blk wq G (rm N fun j => .int .i64 (if j < k then -1 else 0)) 3 ∧ Blk wq (G + 1) (rm N fun j => .int .i64 (if j < k then -1 else 0)) 3 ∧ Below W1.heap.size W1 wq) (fun vi _ => N - (vInt vi).toNat)
  case atStart => exact ⟨0, by omega, rfl, by simpa using HG.out, by simpa using HG2.out, HB2.out⟩
  case round =>
    clear HG HG2 HB2 HW2
    obtain ⟨k, hk, rfl, hg, hg2, hbq⟩ := hrel
    obtain ⟨c0, c1, c2⟩ := HBOX.out.cell wr hbq
    rw [HF.out] at c0
    by_cases hkN : k < N
    · have hkF : (k : Int) ≤ F := by omega
      have hkn' : (k : Int) < N := by omega
      have f1 : wr.frozen? ⟨G, k, none⟩ = false := hg.frozen k
      have q1 : wr.cell? ⟨G, k, none⟩ = some (.int .i64 0) := hg.cell (by rw [rm_get hkN, if_neg (by omega)])
      obtain ⟨wx, hwx⟩ : ∃ wx, wx = wr.setCell ⟨G, k, none⟩ (.int .i64 (-1)) := ⟨_, rfl⟩
      have hcg : Chg [G] wr wx := by rw [hwx]; exact (Chg.refl _ _).set _ (by simp)
      have hgx : Blk wx G (rm N fun j => .int .i64 (if j < k + 1 then -1 else 0)) 3 := by
        rw [hwx]
        have := hg.set k (.int .i64 (-1))
        rw [rm_set] at this
        rw [rm_congr (g := fun j => if j = k then Value.int .i64 (-1) else .int .i64 (if j < k then -1 else 0)) fun j _ => by
          by_cases e : j = k
          · subst e; rw [if_pos (by omega), if_pos rfl]
          · rw [if_neg e]
            by_cases e2 : j < k
            · rw [if_pos (by omega), if_pos e2]
            · rw [if_neg (by omega), if_neg e2]]
        exact this
      have hg2x : Blk wx (G + 1) (rm N fun j => .int .i64 (if j < k then -1 else 0)) 3 := hg2.chg hcg (by simp)
      have hbx : Below W1.heap.size W1 wx := by rw [hwx]; exact below_set hbq (Nat.le_refl _) hG1 k _
      have f2 : wx.frozen? ⟨G + 1, k, none⟩ = false := hg2x.frozen k
      have q2 : wx.cell? ⟨G + 1, k, none⟩ = some (.int .i64 0) := hg2x.cell (by rw [rm_get hkN, if_neg (by omega)])
      have hgy : Blk (wx.setCell ⟨G + 1, k, none⟩ (.int .i64 (-1))) (G + 1) (rm N fun j => .int .i64 (if j < k + 1 then -1 else 0)) 3 := by
        have := hg2x.set k (.int .i64 (-1))
        rw [rm_set] at this
        rw [rm_congr (g := fun j => if j = k then Value.int .i64 (-1) else .int .i64 (if j < k then -1 else 0)) fun j _ => by
          by_cases e : j = k
          · subst e; rw [if_pos (by omega), if_pos rfl]
          · rw [if_neg e]
            by_cases e2 : j < k
            · rw [if_pos (by omega), if_pos e2]
            · rw [if_neg (by omega), if_neg e2]]
        exact this
      have hgz : Blk (wx.setCell ⟨G + 1, k, none⟩ (.int .i64 (-1))) G (rm N fun j => .int .i64 (if j < k + 1 then -1 else 0)) 3 := hgx.chg ((Chg.refl [G + 1] wx).set _ (by simp)) (by simp)
      have hbz := below_set hbx (Nat.le_refl _) (show W1.heap.size ≤ G + 1 by omega) k (.int .i64 (-1))
      have HGY := Lib.hid hgy; clear hgy
      have HGZ := Lib.hid hgz; clear hgz
      have HBZ := Lib.hid hbz; clear hbz
      clear hg hg2 hbq hcg hgx hg2x hbx
      have hwx' := hwx.symm; clear hwx
      go_wp2
      go_roundw
      case rel => exact ⟨k + 1, by omega, by go_num, HGZ.out, HGY.out, HBZ.out⟩
      case measure => simp [vInt]; omega
    · have hkF : ((k : Int) ≤ F) = False := eq_false (by omega)
      have hR0 : RR W1 wr G F (rk0 b m 0) (fun _ => none) := by
        have hkN2 : k = F + 1 := by have := HN.out; omega
        have e : rm N (fun j => Value.int .i64 (if j < k then -1 else 0)) = rm (F + 1) (rkC F fun _ => none) := by
          rw [HN.out, hkN2]
          exact rm_congr fun j hj => by rw [if_pos hj]; rfl
        rw [e] at hg hg2
        exact ⟨hg, hg2, hbq⟩
      have HR0 := Lib.hid hR0; clear hR0 hg hg2 hbq
      obtain ⟨n, hn⟩ : ∃ n, n = b.assume.length := ⟨_, rfl⟩
      have HNN := Lib.hid hn
      rw [← hn] at c1 a16
      clear hn
      go_wp2
      clear c0 c1 c2
      go_loopw [9] (fun vi wq => ∃ k : Nat, k ≤ n ∧ vi = .int .i64 k ∧ RR W1 wq G F (rk0 b m k) (fun _ => none)) (fun vi _ => n - (vInt vi).toNat)
      case atStart => exact ⟨0, by omega, rfl, HR0.out⟩
      case round =>
        clear HR0
        obtain ⟨k, hk, rfl, hR⟩ := hrel
        obtain ⟨c0, c1, c2⟩ := HBOX.out.cell wr hR.b
        rw [← HNN.out] at c1
        by_cases h1 : k < n
        · have h1' : (k : Int) < n := by omega
          have h1n : k < b.assume.length := by have := HNN.out; omega
          obtain ⟨g, o, rfl, _, _, hC, hlt⟩ := sl_at (HH.out.asm (by omega)) (by omega)
          have har := HOK.out.asm _ (List.getElem_mem h1n)
          obtain ⟨f, hf⟩ : ∃ f : Nat, b.assume[k] = f := ⟨b.assume[k].toNat, by omega⟩
          rw [hf, HF.out] at har
          have hfN : f < F + 1 := by omega
          have hNF := HN.out
          have ck : wr.cell? ⟨g, o + k, none⟩ = some (.int .i64 f) := (hC.below hR.b hlt) k _ (by simp [h1n, hf])
          have hfl : slF F f = f := by unfold slF; rw [if_neg (by omega)]
          have hnext : rk0 b m (k + 1) = if m.testBit k then (fun x => if x = slF F f then some 0 else rk0 b m k x) else rk0 b m k := by
            conv => lhs; unfold rk0
            rw [getD_eq 0 h1n, hf, hfl]
          have HX := Lib.hid hnext; clear hnext hf hC har hfl
          have hfN' : (f : Int) < N := by omega
          clear hNF
          have hh := has_any m k (by omega) (by omega) wr
          have HAS := Lib.hid hh; clear hh
          cases htb : m.testBit k with
          | true =>
            rw [htb] at HAS
            have e : rk0 b m (k + 1) = fun x => if x = slF F f then some 0 else rk0 b m k x := by rw [HX.out, htb, if_pos rfl]
            have hset := hR.setK hG1 hfN 0
            rw [← e] at hset
            have fz : wr.frozen? ⟨G, f, none⟩ = false := hR.a.frozen f
            have cz : wr.cell? ⟨G, f, none⟩ = some (rkC F (rk0 b m k) f) := hR.a.cell (rm_get hfN)
            have HSET := Lib.hid hset; clear hset e hR htb
            go_wp2_with (fail)
            refine HAS.out.mono ?_
            rintro e w5 ⟨rfl, h5⟩
            have h6 := h5.symm
            clear h5
            subst h6
            go_wp2
            go_roundw
            case rel => exact ⟨k + 1, by omega, by go_num, HSET.out⟩
            case measure => simp [vInt]; omega
          | false =>
            rw [htb] at HAS
            have e : rk0 b m (k + 1) = rk0 b m k := by rw [HX.out, htb, if_neg Bool.false_ne_true]
            have hset := hR
            rw [← e] at hset
            have HSET := Lib.hid hset; clear hset e hR htb
            go_wp2_with (fail)
            refine HAS.out.mono ?_
            rintro e w5 ⟨rfl, h5⟩
            have h6 := h5.symm
            clear h5
            subst h6
            go_wp2
            go_roundw
            case rel => exact ⟨k + 1, by omega, by go_num, HSET.out⟩
            case measure => simp [vInt]; omega
        · have h1' : ((k : Int) < n) = False := eq_false (by omega)
          have hR1 : RR W1 wr G F (rIter b m 0).1 (rIter b m 0).2 := by
            obtain rfl : k = n := by omega
            rw [HNN.out] at hR
            exact hR
          have HR1 := Lib.hid hR1; clear hR1 hR
          go_wp2
          clear c0 c1 c2
          go_loopw [10] (fun vr wq => ∃ r : Nat, r ≤ N ∧ vr = .int .i64 (r + 1 : Nat) ∧ RR W1 wq G F (rIter b m r).1 (rIter b m r).2) (fun vr _ => N + 2 - (vInt vr).toNat)
          case atStart => exact ⟨0, by omega, rfl, HR1.out⟩
          case round =>
            clear HR1
            obtain ⟨r, hr, rfl, hR⟩ := hrel
            obtain ⟨c0, c1, c2⟩ := HBOX.out.cell wr hR.b
            rw [HF.out] at c0
            have hle : ∀ f t, (rIter b m r).1 f = some t → t < r + 1 := fun f t h => by have := rIter_le r f t h; omega
            have hstep : rIter b m (r + 1) = (midK b (rIter b m r).1 (r + 1) b.rules.length, midS b (rIter b m r).1 (rIter b m r).2 b.rules.length) := rfl
            obtain ⟨rk, hrk⟩ : ∃ rk, rk = (rIter b m r).1 := ⟨_, rfl⟩
            obtain ⟨rs, hrs⟩ : ∃ rs, rs = (rIter b m r).2 := ⟨_, rfl⟩
            obtain ⟨q, hq⟩ : ∃ q, q = r + 1 := ⟨_, rfl⟩
            by_cases h1 : r < N
            · rw [← hrk, ← hrs] at hR
              rw [← hrk, ← hrs, ← hq] at hstep
              rw [← hrk, ← hq] at hle
              rw [← hq]
              have hqN : (q : Int) ≤ N := by omega
              have HST := Lib.hid hstep; clear hstep
              have HLE := Lib.hid hle; clear hle
              have HQ := Lib.hid hq
              clear hrk hrs
              obtain ⟨nr, hnr⟩ : ∃ nr, nr = b.rules.length := ⟨_, rfl⟩
              have HNR := Lib.hid hnr
              rw [← hnr] at r64
              clear hnr
              have hq66 : q ≤ 66 := by omega
              clear hq
              have HRR := Lib.hid hR; clear hR
              go_wp2
              clear c0 c1 c2
              go_loopw [11] (fun vi wq => ∃ i : Nat, i ≤ nr ∧ vi = .int .i64 i ∧ RR W1 wq G F (midK b rk q i) (midS b rk rs i)) (fun vi _ => nr - (vInt vi).toNat)
              case atStart => exact ⟨0, by omega, rfl, by rw [midK_zero, midS_zero]; exact HRR.out⟩
              case round =>
                clear HRR
                obtain ⟨i, hi, rfl, hR⟩ := hrel
                obtain ⟨c0, c1, c2⟩ := HBOX.out.cell wr hR.b
                rw [HF.out] at c0
                rw [← HNR.out] at c2
                by_cases h2 : i < nr
                · have h2' : (i : Int) < nr := by omega
                  have h2n : i < b.rules.length := by have := HNR.out; omega
                  obtain ⟨g, o, sb, cb, rfl, hc, hbd⟩ := HH.out.rule h2n
                  obtain ⟨k0, k1⟩ := hc wr hR.b
                  have hbdw := hbd.below (Below.mono hR.b (Nat.le_refl _))
                  clear hbd hc
                  have hbr : ∀ f ∈ b.rules[i].body, 0 ≤ f ∧ f < (F : Int) := fun f hf => by
                    have h := HOK.out.body _ (List.getElem_mem h2n) f hf
                    rwa [HF.out] at h
                  have hbl := HOK.out.long _ (List.getElem_mem h2n)
                  have hhr := HOK.out.head _ (List.getElem_mem h2n)
                  rw [HF.out] at hhr
                  have hgd : b.rules.getD i rl0 = b.rules[i] := getD_eq rl0 h2n
                  have hnew : newR rk (fndN b rk i) (b.rules.getD i rl0) = ((midK b rk q i b.rules[i].head).isNone && b.rules[i].body.all fun f => (rk f).isSome) := by
                    unfold newR; rw [midK_none, hgd]
                  have hhd2 : (b.rules.getD i rl0).head = b.rules[i].head := by rw [hgd]
                  obtain ⟨hd, hhd⟩ : ∃ hd, hd = b.rules[i].head := ⟨_, rfl⟩
                  obtain ⟨bl, hbe⟩ : ∃ bl, bl = b.rules[i].body := ⟨_, rfl⟩
                  rw [← hhd] at k0 hhr hnew hhd2
                  rw [← hbe] at k1 hbr hbl hbdw hnew
                  clear hhd hbe hgd
                  have hsl := slT_F (F := F) hhr.1 hhr.2
                  obtain ⟨s, hs⟩ : ∃ s, s = slT F hd := ⟨_, rfl⟩
                  have hsv : s = if hd < 0 then F else hd.toNat := hs
                  rw [← hs] at hsl
                  clear hs
                  have hsN : s < F + 1 := by omega
                  have hsN' : (s : Int) < N := by have := HN.out; omega
                  have HNEW := Lib.hid hnew; clear hnew
                  have HHD := Lib.hid hhd2; clear hhd2
                  have HBR := Lib.hid hbr; clear hbr
                  have HBDW := Lib.hid hbdw; clear hbdw
                  have cs : wr.cell? ⟨G, s, none⟩ = some (.int .i64 (opI (midK b rk q i hd))) := hR.a.cell (by rw [rm_get hsN]; unfold rkC; rw [hsl.2])
                  have hng : decide (opI (midK b rk q i hd) < 0) = (midK b rk q i hd).isNone := opI_neg
                  obtain ⟨u, hu⟩ : ∃ u, u = opI (midK b rk q i hd) := ⟨_, rfl⟩
                  rw [← hu] at cs hng
                  have HU := Lib.hid hu; clear hu
                  have HSL := Lib.hid hsl; clear hsl
                  have HRR := Lib.hid hR; clear hR
                  by_cases hneg : hd < 0
                  · have hsF : s = F := by rw [hsv, if_pos hneg]
                    rw [hsF] at cs hsN hsN' HSL
                    clear hsF hsv
                    obtain ⟨wo, hwo⟩ : ∃ wo : World, wo = wr := ⟨_, rfl⟩
                    subst hwo
                    have HNG := Lib.hid hng; clear hng
                    go_wp2
                    clear c0 c1 c2 cs
                    go_loopw [13, 14] (fun vf vk wq => ∃ k : Nat, k ≤ bl.length ∧ vk = .int .i64 k ∧ vf = .bool ((midK b rk q i hd).isNone && (bl.take k).all fun f => (rk f).isSome) ∧ wq = wo) (fun _ vk _ => bl.length - (vInt vk).toNat)
                    case atStart => exact ⟨0, by omega, rfl, by rw [← HNG.out]; simp, rfl⟩
                    case round =>
                      obtain ⟨k, hk, rfl, rfl, rfl⟩ := hrel
                      obtain ⟨c0, c1, c2⟩ := HBOX.out.cell wr HRR.out.b
                      rw [← HNR.out] at c2
                      by_cases h3 : k < bl.length
                      · have h3' : (k : Int) < bl.length := by omega
                        obtain ⟨g2, o2, rfl, _, _, hC2, _⟩ := sl_at (HBDW.out (by omega)) (by omega)
                        have har := HBR.out _ (List.getElem_mem h3)
                        obtain ⟨f, hf⟩ : ∃ f : Nat, bl[k] = f := ⟨bl[k].toNat, by omega⟩
                        rw [hf] at har
                        have ck : wr.cell? ⟨g2, o2 + k, none⟩ = some (.int .i64 f) := hC2 k _ (by simp [h3, hf])
                        have hfN : f < F + 1 := by omega
                        have hfN' : (f : Int) < N := by have := HN.out; omega
                        have hfl : slF F f = f := by unfold slF; rw [if_neg (by omega)]
                        have cf : wr.cell? ⟨G, f, none⟩ = some (.int .i64 (opI (midK b rk q i f))) := HRR.out.a.cell (by rw [rm_get hfN]; unfold rkC; rw [hfl])
                        have hsm := midK_some (b := b) (rk := rk) (r := q) (i := i) (f := f) HLE.out
                        obtain ⟨v, hv⟩ : ∃ v, v = opI (midK b rk q i f) := ⟨_, rfl⟩
                        rw [← hv] at cf hsm
                        have htk : (bl.take (k + 1)).all (fun f => (rk f).isSome) = ((bl.take k).all (fun f => (rk f).isSome) && (rk f).isSome) := by
                          rw [List.take_succ_eq_append_getElem h3, List.all_append, hf]; simp
                        rw [← hsm] at htk
                        have HTK := Lib.hid htk; clear htk hv hsm hfl hC2 har hf
                        obtain ⟨p1, hp1⟩ : ∃ p1, p1 = (midK b rk q i hd).isNone := ⟨_, rfl⟩
                        obtain ⟨p2, hp2⟩ : ∃ p2, p2 = (bl.take k).all fun f => (rk f).isSome := ⟨_, rfl⟩
                        rw [← hp2] at HTK
                        rw [← hp1, ← hp2]
                        have HP1 := Lib.hid hp1; clear hp1 hp2
                        cases hP : (p1 && p2) with
                        | false =>
                          have e : (p1 && (bl.take (k + 1)).all fun f => (rk f).isSome) = false := by rw [HTK.out, ← Bool.and_assoc, hP]; rfl
                          have EE := Lib.hid e; clear e hP
                          go_wp2
                          go_roundw
                          case rel => exact ⟨k + 1, by omega, by go_num, by rw [EE.out], trivial⟩
                          case measure => simp [vInt]; omega
                        | true =>
                          have e : (p1 && (bl.take (k + 1)).all fun f => (rk f).isSome) = (decide (0 ≤ v) && decide (v < q)) := by rw [HTK.out, ← Bool.and_assoc, hP]; rfl
                          have EE := Lib.hid e; clear e hP
                          by_cases v0 : 0 ≤ v
                          · by_cases v1 : v < q
                            · have e : (decide (0 ≤ v) && decide (v < q)) = true := by rw [decide_eq_true v0, decide_eq_true v1]; rfl
                              rw [e] at EE
                              clear e
                              go_wp2
                              go_roundw
                              case rel => exact ⟨k + 1, by omega, by go_num, by rw [EE.out], trivial⟩
                              case measure => simp [vInt]; omega
                            · have e : (decide (0 ≤ v) && decide (v < q)) = false := by rw [decide_eq_false v1, Bool.and_false]
                              rw [e] at EE
                              have v2 : (v < (q : Int)) = False := eq_false v1
                              clear e v1
                              go_wp2
                              go_roundw
                              case rel => exact ⟨k + 1, by omega, by go_num, by rw [EE.out], trivial⟩
                              case measure => simp [vInt]; omega
                          · have e : (decide (0 ≤ v) && decide (v < q)) = false := by rw [decide_eq_false v0, Bool.false_and]
                            rw [e] at EE
                            have v2 : ((0 : Int) ≤ v) = False := eq_false v0
                            clear e v0
                            go_wp2
                            go_roundw
                            case rel => exact ⟨k + 1, by omega, by go_num, by rw [EE.out], trivial⟩
                            case measure => simp [vInt]; omega
                      · have h3' : ((k : Int) < bl.length) = False := eq_false (by omega)
                        have hkl : k = bl.length := by omega
                        have hnw := HNEW.out
                        rw [hkl, List.take_length, ← hnw]
                        have HKL := Lib.hid hkl; clear hkl
                        cases hN2 : newR rk (fndN b rk i) (b.rules.getD i rl0) with
                        | false =>
                          have e1 : midK b rk q (i + 1) = midK b rk q i := by unfold midK; rw [fnd_same hN2]
                          have e2 : midS b rk rs (i + 1) = midS b rk rs i := by unfold midS; rw [fnd_same hN2]
                          have E1 := Lib.hid e1; clear e1
                          have E2 := Lib.hid e2; clear e2 hN2 hnw
                          have h3k : ((k : Int) < bl.length) = False := h3'
                          rw [← HKL.out]
                          rw [← HKL.out] at h3'
                          go_wp2
                          go_roundw
                          case rel => exact ⟨i + 1, by omega, by go_num, by rw [E1.out, E2.out]; exact HRR.out⟩
                          case measure => simp [vInt]; omega
                        | true =>
                          have e1 := rkC_more (F := F) (r := q) (j := F) (hd := hd) (by have := HSL.out; omega) HSL.out.2 hN2 HHD.out
                          have e2 := rsC_more (F := F) (rs := rs) (j := F) (hd := hd) HSL.out.2 hN2 HHD.out
                          have r1 := HRR.out.setK hG1 (j := F) (by have := HSL.out; omega) q
                          rw [e1] at r1
                          have f1 : wr.frozen? ⟨G, F, none⟩ = false := HRR.out.a.frozen _
                          have d1 : wr.cell? ⟨G, F, none⟩ = some (rkC F (midK b rk q i) F) := HRR.out.a.cell (rm_get (by have := HSL.out; omega))
                          obtain ⟨wx, hwx⟩ : ∃ wx, wx = wr.setCell ⟨G, F, none⟩ (.int .i64 (q : Nat)) := ⟨_, rfl⟩
                          rw [← hwx] at r1
                          have r2 := r1.setS hG1 (j := F) (by have := HSL.out; omega) i
                          rw [e2] at r2
                          have f2 : wx.frozen? ⟨G + 1, F, none⟩ = false := r1.r.frozen _
                          have d2 : wx.cell? ⟨G + 1, F, none⟩ = some (rkC F (midS b rk rs i) F) := r1.r.cell (rm_get (by have := HSL.out; omega))
                          have hwx' := hwx.symm
                          have HR2 := Lib.hid r2; clear r2 r1 e1 e2 hwx hN2 hnw
                          rw [← HKL.out]
                          rw [← HKL.out] at h3'
                          go_wp2
                          go_roundw
                          case rel => exact ⟨i + 1, by omega, by go_num, HR2.out⟩
                          case measure => simp [vInt]; omega
                  · obtain rfl : hd = (s : Int) := by rw [if_neg hneg] at hsv; omega
                    have hneg' : ((s : Int) < 0) = False := eq_false hneg
                    clear hneg hsv
                    obtain ⟨wo, hwo⟩ : ∃ wo : World, wo = wr := ⟨_, rfl⟩
                    subst hwo
                    have HNG := Lib.hid hng; clear hng
                    go_wp2
                    clear c0 c1 c2 cs
                    go_loopw [13, 14] (fun vf vk wq => ∃ k : Nat, k ≤ bl.length ∧ vk = .int .i64 k ∧ vf = .bool ((midK b rk q i (s : Int)).isNone && (bl.take k).all fun f => (rk f).isSome) ∧ wq = wo) (fun _ vk _ => bl.length - (vInt vk).toNat)
                    case atStart => exact ⟨0, by omega, rfl, by rw [← HNG.out]; simp, rfl⟩
                    case round =>
                      obtain ⟨k, hk, rfl, rfl, rfl⟩ := hrel
                      obtain ⟨c0, c1, c2⟩ := HBOX.out.cell wr HRR.out.b
                      rw [← HNR.out] at c2
                      by_cases h3 : k < bl.length
                      · have h3' : (k : Int) < bl.length := by omega
                        obtain ⟨g2, o2, rfl, _, _, hC2, _⟩ := sl_at (HBDW.out (by omega)) (by omega)
                        have har := HBR.out _ (List.getElem_mem h3)
                        obtain ⟨f, hf⟩ : ∃ f : Nat, bl[k] = f := ⟨bl[k].toNat, by omega⟩
                        rw [hf] at har
                        have ck : wr.cell? ⟨g2, o2 + k, none⟩ = some (.int .i64 f) := hC2 k _ (by simp [h3, hf])
                        have hfN : f < F + 1 := by omega
                        have hfN' : (f : Int) < N := by have := HN.out; omega
                        have hfl : slF F f = f := by unfold slF; rw [if_neg (by omega)]
                        have cf : wr.cell? ⟨G, f, none⟩ = some (.int .i64 (opI (midK b rk q i f))) := HRR.out.a.cell (by rw [rm_get hfN]; unfold rkC; rw [hfl])
                        have hsm := midK_some (b := b) (rk := rk) (r := q) (i := i) (f := f) HLE.out
                        obtain ⟨v, hv⟩ : ∃ v, v = opI (midK b rk q i f) := ⟨_, rfl⟩
                        rw [← hv] at cf hsm
                        have htk : (bl.take (k + 1)).all (fun f => (rk f).isSome) = ((bl.take k).all (fun f => (rk f).isSome) && (rk f).isSome) := by
                          rw [List.take_succ_eq_append_getElem h3, List.all_append, hf]; simp
                        rw [← hsm] at htk
                        have HTK := Lib.hid htk; clear htk hv hsm hfl hC2 har hf
                        obtain ⟨p1, hp1⟩ : ∃ p1, p1 = (midK b rk q i (s : Int)).isNone := ⟨_, rfl⟩
                        obtain ⟨p2, hp2⟩ : ∃ p2, p2 = (bl.take k).all fun f => (rk f).isSome := ⟨_, rfl⟩
                        rw [← hp2] at HTK
                        rw [← hp1, ← hp2]
                        have HP1 := Lib.hid hp1; clear hp1 hp2
                        cases hP : (p1 && p2) with
                        | false =>
                          have e : (p1 && (bl.take (k + 1)).all fun f => (rk f).isSome) = false := by rw [HTK.out, ← Bool.and_assoc, hP]; rfl
                          have EE := Lib.hid e; clear e hP
                          go_wp2
                          go_roundw
                          case rel => exact ⟨k + 1, by omega, by go_num, by rw [EE.out], trivial⟩
                          case measure => simp [vInt]; omega
                        | true =>
                          have e : (p1 && (bl.take (k + 1)).all fun f => (rk f).isSome) = (decide (0 ≤ v) && decide (v < q)) := by rw [HTK.out, ← Bool.and_assoc, hP]; rfl
                          have EE := Lib.hid e; clear e hP
                          by_cases v0 : 0 ≤ v
                          · by_cases v1 : v < q
                            · have e : (decide (0 ≤ v) && decide (v < q)) = true := by rw [decide_eq_true v0, decide_eq_true v1]; rfl
                              rw [e] at EE
                              clear e
                              go_wp2
                              go_roundw
                              case rel => exact ⟨k + 1, by omega, by go_num, by rw [EE.out], trivial⟩
                              case measure => simp [vInt]; omega
                            · have e : (decide (0 ≤ v) && decide (v < q)) = false := by rw [decide_eq_false v1, Bool.and_false]
                              rw [e] at EE
                              have v2 : (v < (q : Int)) = False := eq_false v1
                              clear e v1
                              go_wp2
                              go_roundw
                              case rel => exact ⟨k + 1, by omega, by go_num, by rw [EE.out], trivial⟩
                              case measure => simp [vInt]; omega
                          · have e : (decide (0 ≤ v) && decide (v < q)) = false := by rw [decide_eq_false v0, Bool.false_and]
                            rw [e] at EE
                            have v2 : ((0 : Int) ≤ v) = False := eq_false v0
                            clear e v0
                            go_wp2
                            go_roundw
                            case rel => exact ⟨k + 1, by omega, by go_num, by rw [EE.out], trivial⟩
                            case measure => simp [vInt]; omega
                      · have h3' : ((k : Int) < bl.length) = False := eq_false (by omega)
                        have hkl : k = bl.length := by omega
                        have hnw := HNEW.out
                        rw [hkl, List.take_length, ← hnw]
                        have HKL := Lib.hid hkl; clear hkl
                        cases hN2 : newR rk (fndN b rk i) (b.rules.getD i rl0) with
                        | false =>
                          have e1 : midK b rk q (i + 1) = midK b rk q i := by unfold midK; rw [fnd_same hN2]
                          have e2 : midS b rk rs (i + 1) = midS b rk rs i := by unfold midS; rw [fnd_same hN2]
                          have E1 := Lib.hid e1; clear e1
                          have E2 := Lib.hid e2; clear e2 hN2 hnw
                          have h3k : ((k : Int) < bl.length) = False := h3'
                          rw [← HKL.out]
                          rw [← HKL.out] at h3'
                          go_wp2
                          go_roundw
                          case rel => exact ⟨i + 1, by omega, by go_num, by rw [E1.out, E2.out]; exact HRR.out⟩
                          case measure => simp [vInt]; omega
                        | true =>
                          have e1 := rkC_more (F := F) (r := q) (j := s) (hd := (s : Int)) (by have := HSL.out; omega) HSL.out.2 hN2 HHD.out
                          have e2 := rsC_more (F := F) (rs := rs) (j := s) (hd := (s : Int)) HSL.out.2 hN2 HHD.out
                          have r1 := HRR.out.setK hG1 (j := s) (by have := HSL.out; omega) q
                          rw [e1] at r1
                          have f1 : wr.frozen? ⟨G, s, none⟩ = false := HRR.out.a.frozen _
                          have d1 : wr.cell? ⟨G, s, none⟩ = some (rkC F (midK b rk q i) s) := HRR.out.a.cell (rm_get (by have := HSL.out; omega))
                          obtain ⟨wx, hwx⟩ : ∃ wx, wx = wr.setCell ⟨G, s, none⟩ (.int .i64 (q : Nat)) := ⟨_, rfl⟩
                          rw [← hwx] at r1
                          have r2 := r1.setS hG1 (j := s) (by have := HSL.out; omega) i
                          rw [e2] at r2
                          have f2 : wx.frozen? ⟨G + 1, s, none⟩ = false := r1.r.frozen _
                          have d2 : wx.cell? ⟨G + 1, s, none⟩ = some (rkC F (midS b rk rs i) s) := r1.r.cell (rm_get (by have := HSL.out; omega))
                          have hwx' := hwx.symm
                          have HR2 := Lib.hid r2; clear r2 r1 e1 e2 hwx hN2 hnw
                          rw [← HKL.out]
                          rw [← HKL.out] at h3'
                          go_wp2
                          go_roundw
                          case rel => exact ⟨i + 1, by omega, by go_num, HR2.out⟩
                          case measure => simp [vInt]; omega
                · have h2' : ((i : Int) < nr) = False := eq_false (by omega)
                  have hst := HST.out
                  have hin : i = b.rules.length := by have := HNR.out; omega
                  rw [← hin] at hst
                  have hR3 : RR W1 wr G F (rIter b m q).1 (rIter b m q).2 := by rw [hst]; exact hR
                  have HR3 := Lib.hid hR3; clear hR3 hR hst hin
                  have hqN2 : q ≤ N := by have := HQ.out; omega
                  have hq2 : r + 1 = q := HQ.out.symm
                  have HQ2 := Lib.hid hq2; clear hq2
                  go_wp2
                  go_roundw
                  case rel => exact ⟨q, hqN2, by go_num, HR3.out⟩
                  case measure => simp [vInt]; have := HQ2.out; omega
            · have hqN : (((r + 1 : Nat) : Int) ≤ N) = False := eq_false (by omega)
              have hR4 : RR W1 wr G F (rIter b m (F + 1)).1 (rIter b m (F + 1)).2 := by
                have : r = F + 1 := by have := HN.out; omega
                rw [← this]; exact hR
              have HR4 := Lib.hid (HFIN.out _ hR4); clear hR4 hR hstep hrk hrs
              rw [← hq] at hqN ⊢
              clear hq
              go_wp2
              refine bodyPost_ret (results_tmp2 rfl _ _ _) rfl ?_
              exact ⟨G, by have := HGE.out; omega, rfl, HR4.out⟩
end Go.Proofs.Ytcbmifaobdamhaa
