/- Rot of the program's disk. -/
import Derived.Test.YtbmnbdkbgpajeaaGreatDoorFR07
import Derived.Test.YtbmnbdkbgpajeaaGreatDoorFR06
import Derived.Test.YtbmnbdkbgpajeaaGreatDoorFR05
/- Rot of the program's disk. -/
section
namespace Go.Proofs.YtbmnbdkbgpajeaaGreatDoor
open Go.RowKit Go.Own Go.Disk Go.BigFrame
attribute [local go_sem] setCell_twice str_size
theorem rotT_length (b : Nat) (t : List UInt8) : (rotT b t).length = t.length := by simp [rotT]
theorem rot_bits (x : UInt8) (k : Nat) : bits .xor .u8 (x.toNat : Int) ((2 : Int) ^ (k % 8) % 256) = ((x ^^^ (1 <<< UInt8.ofNat (k % 8))).toNat : Int) := by
  obtain ⟨r, hr⟩ : ∃ r, r = k % 8 := ⟨_, rfl⟩
  have h8 : r < 8 := by omega
  rw [← hr, UInt8.toNat_xor]
  clear hr
  have key : ∀ m : Nat, m < 256 → bits .xor .u8 (x.toNat : Int) (m : Int) = ((x.toNat ^^^ m : Nat) : Int) := fun m hm => u8_xor_nat x.toNat m x.toNat_lt hm
  match r, h8 with
  | 0, _ => exact key 1 (by decide)
  | 1, _ => exact key 2 (by decide)
  | 2, _ => exact key 4 (by decide)
  | 3, _ => exact key 8 (by decide)
  | 4, _ => exact key 16 (by decide)
  | 5, _ => exact key 32 (by decide)
  | 6, _ => exact key 64 (by decide)
  | 7, _ => exact key 128 (by decide)
set_option maxHeartbeats 1600000 in
set_option maxRecDepth 100000 in
theorem rot_any (f : Ft) (d : DS) (i b : Int) (w : World) (h : PD w f d) : Calls Tryz.prog 17 #[.pointer (some ⟨f.p, 0, none⟩), .int .i64 i, .int .i64 b] w fun e w' => e = .returned (.int .i64 (arot d i b).1) ∧ PD w' f (arot d i b).2 ∧ Chg f.all w w' := by
  obtain ⟨l, hB, _⟩ := h.head
  have c0 : w.cell? ⟨f.p, 0, none⟩ = some (.slice (some ⟨f.bb, 0, none⟩) d.s.length f.cap) := hB.cell rfl
  go_enter Tryz.func17, Tryz.ntmps17
  by_cases h0 : i < 0
  · have e : arot d i b = (1, d) := by simp [arot, inR, show ¬ 0 ≤ i by omega]
    go_wp2
    go_ret
    exact ⟨by first | rfl | simp [e], by first | exact h | (rw [e]; exact h), Chg.refl _ _⟩
  · by_cases h1 : (d.s.length : Int) ≤ i
    · have e : arot d i b = (1, d) := by simp [arot, inR, show ¬ i < (d.s.length : Int) by omega]
      go_wp2
      go_ret
      exact ⟨by first | rfl | simp [e], by first | exact h | (rw [e]; exact h), Chg.refl _ _⟩
    · by_cases h2 : b < 0
      · have e : arot d i b = (1, d) := by simp [arot, show ¬ 0 ≤ b by omega]
        go_wp2
        go_ret
        exact ⟨by first | rfl | simp [e], by first | exact h | (rw [e]; exact h), Chg.refl _ _⟩
      · by_cases h3 : 512 ≤ b
        · have e : arot d i b = (1, d) := by simp [arot, show ¬ b ≤ 511 by omega]
          go_wp2
          go_ret
          exact ⟨by first | rfl | simp [e], by first | exact h | (rw [e]; exact h), Chg.refl _ _⟩
        · have hi : inR d i = true := by simp [inR, show 0 ≤ i by omega, show i < (d.s.length : Int) by omega]
          have e : arot d i b = (0, upd d i fun x => { x with t := rotT b.toNat x.t }) := by simp [arot, hi, show 0 ≤ b by omega, show b ≤ 511 by omega]
          obtain ⟨hm, hil, hi0, hse⟩ := sec_mem hi
          have htl := h.ok.t _ hm
          clear hse
          obtain ⟨n, hn⟩ : ∃ n : Nat, n = i.toNat := ⟨_, rfl⟩
          obtain rfl : i = (n : Int) := by omega
          clear hn
          obtain ⟨k, hk⟩ : ∃ k : Nat, k = b.toNat := ⟨_, rfl⟩
          obtain rfl : b = (k : Int) := by omega
          clear hk
          have hil' : n < d.s.length := by omega
          clear hil hi0
          have hk8 : k / 8 < 64 := by omega
          obtain ⟨x, hx⟩ : ∃ x : UInt8, x = (sec d n).t.getD (k / 8) 0 := ⟨_, rfl⟩
          have cx : w.cell? ⟨f.bb, n * 64 + k / 8, none⟩ = some (byv x) := by
            have hC : Cells w f.bb (n * 64) ((sec d n).t.map byv) := by
              refine h.blocks.cells _ _ ?_
              rw [List.length_map, htl, flatS_at h.ok.t (by omega)]
              rfl
            refine hC _ _ ?_
            rw [List.getElem?_map, hx, List.getElem?_eq_getElem (by omega)]
            simp [show k / 8 < (sec d n).t.length by omega]
          have HX := Lib.hid hx; clear hx
          have hfr := h.blocks.frozen
          have hxv := rot_bits x k
          obtain ⟨y, hy⟩ : ∃ y, y = x ^^^ (1 <<< UInt8.ofNat (k % 8)) := ⟨_, rfl⟩
          rw [← hy] at hxv
          have HY := Lib.hid hy; clear hy
          have ht : rotT k (sec d n).t = (sec d n).t.set (k / 8) y := by
            have e1 : (sec d n).t[k / 8]? = some x := by rw [HX.out]; simp [show k / 8 < (sec d n).t.length by omega]
            apply List.ext_getElem?
            intro j
            simp only [rotT, List.getElem?_modify, List.getElem?_set]
            by_cases e : k / 8 = j
            · subst e
              rw [e1, if_pos rfl, if_pos (by omega), HY.out]
              simp
            · simp [e]
          have hset : (flatS d.s f.sp).set (n * 64 + k / 8) (byv y) = (flatS d.s f.sp).take (n * 64) ++ (rotT k (sec d n).t).map byv ++ (flatS d.s f.sp).drop (n * 64 + 64) := by
            have hfl := flatS_length (sp := f.sp) h.ok.t
            have h64 : ((flatS d.s f.sp).drop (n * 64)).take 64 = (sec d n).t.map byv := by
              rw [flatS_at h.ok.t (by omega)]; rfl
            have h65 : (flatS d.s f.sp).drop (n * 64) = (sec d n).t.map byv ++ (flatS d.s f.sp).drop (n * 64 + 64) := by
              rw [← h64, ← List.drop_drop, List.take_append_drop]
            have hl : ((flatS d.s f.sp).take (n * 64)).length = n * 64 := by rw [List.length_take]; omega
            conv => lhs; rw [← List.take_append_drop (n * 64) (flatS d.s f.sp), h65]
            rw [List.set_append_right _ _ (by omega), hl, Nat.add_sub_cancel_left, List.set_append_left _ _ (by rw [List.length_map, htl]; omega), ht, List.map_set, List.append_assoc]
          have hB9 : ∀ nq, Blk ((w.drewN nq).setCell ⟨f.bb, n * 64 + k / 8, none⟩ (byv y)) f.bb ((flatS d.s f.sp).take (n * 64) ++ (rotT k (sec d n).t).map byv ++ (flatS d.s f.sp).drop (n * 64 + 64)) 86 := fun nq => by
            rw [← hset]
            exact (h.blocks.drewN nq).set (n * 64 + k / 8) (byv y)
          have hc9 : ∀ nq, Chg [f.bb] (w.drewN nq) ((w.drewN nq).setCell ⟨f.bb, n * 64 + k / 8, none⟩ (byv y)) := fun nq => (Chg.refl _ _).set _ (by simp)
          have h9 := fun nq => (h.chg ((Chg.refl [] w).drewN nq) (by simp)).text hi (t := rotT k (sec d n).t) (by rw [rotT_length]; exact htl) (hB9 nq) (hc9 nq)
          have e9 : (upd d n fun x => { x with t := rotT k x.t }) = upd d n fun x => { x with t := rotT k (sec d n).t } := upd_congr hi rfl
          rw [Int.toNat_natCast, e9] at e
          have HE := Lib.hid e; clear e e9 ht hset hB9
          go_wp2
          refine wp_region_tail 16 (by kernel_rfl) (by kernel_rfl) ?_
          simp only [List.take_succ_cons, List.take_zero, List.drop_succ_cons, List.drop_zero]
          repeat (go_big_quiet_step (fail))
          refine wpQuiet_nil ?_
          intro nq
          go_wp2
          go_ret
          rw [HE.out]
          exact ⟨rfl, h9 nq, (((Chg.refl _ w).drewN nq).trans (hc9 nq)).mono (by simp [Ft.all])⟩
end Go.Proofs.YtbmnbdkbgpajeaaGreatDoor
end
/- The journal in plain Lean: sectors of records, what a good sector says, what is found on a disk, what Append does. No program. -/
section
namespace Go.Jn
open Go.Disk Go.Sha Go.Own
def cntN (n : Nat) : Nat := if 8000 < n then 0 else if n = 0 then 1 else (n + 47) / 48
def cntI (n : Int) : Int := if n < 0 then 0 else (cntN n.toNat : Int)
/-- a number, the least significant byte first -/
def le : Nat → Nat → List UInt8
  | 0, _ => []
  | w + 1, n => UInt8.ofNat n :: le w (n / 256)
def num : List UInt8 → Nat
  | [] => 0
  | b :: r => b.toNat + 256 * num r
def head (n k : Nat) (rest : List UInt8) : List UInt8 := le 4 n ++ (le 2 k ++ (le 2 rest.length ++ (rest.take 48 ++ List.replicate (48 - rest.length) 0)))
def stamp (b : List UInt8) : List UInt8 := b ++ (sha b).take 8
def sect (n : Nat) (t : List UInt8) (k : Nat) : List UInt8 := stamp (head n k (t.drop (48 * k)))
def pack (n : Nat) (t : List UInt8) : List (List UInt8) := (List.range (cntN t.length)).map (sect n t)
/-- what a good sector says -/
structure Prt where
  n : Nat
  k : Nat
  l : Nat
  b : List UInt8
  ok : Bool
deriving DecidableEq, Inhabited
def prt0 : Prt := ⟨0, 0, 0, [], false⟩
def numOf (s : List UInt8) : Nat := num (s.take 4)
def prtOf (s : List UInt8) : Nat := num ((s.drop 4).take 2)
def leftOf (s : List UInt8) : Nat := num ((s.drop 6).take 2)
def goodB (s : List UInt8) : Bool :=
  decide (s.length = 64) && decide (stamp (s.take 56) = s) && decide (1 ≤ numOf s) && decide (numOf s ≤ 4096) && decide (48 * prtOf s + leftOf s ≤ 8000) && !(decide (leftOf s = 0) && decide (0 < prtOf s)) &&
  ((s.take 56).drop (8 + min (leftOf s) 48)).all (· == 0)
def unpack (s : List UInt8) : Prt := if goodB s then ⟨numOf s, prtOf s, leftOf s, (s.drop 8).take (min (leftOf s) 48), true⟩ else prt0
def blank (s : List UInt8) : Bool := s.all (· == 0)
/-- the record that begins with some sectors, and how many these are -/
def recAt : List Prt → Option (List UInt8 × Nat)
  | [] => none
  | f :: r =>
    if f.ok && decide (f.k = 0) && decide (cntN f.l ≤ (f :: r).length) && (List.range (cntN f.l)).all fun k => ((f :: r).getD k prt0).ok && decide (((f :: r).getD k prt0).n = f.n) && decide (((f :: r).getD k prt0).k = k) && decide (((f :: r).getD k prt0).l + 48 * k = f.l)
    then some ((((f :: r).take (cntN f.l)).map Prt.b).flatten, cntN f.l) else none
def scan : Nat → List Prt → List (Nat × List UInt8) → List (Nat × List UInt8)
  | 0, _, a => a
  | _ + 1, [], a => a
  | f + 1, x :: r, a => match recAt (x :: r) with
    | none => scan f r a
    | some (t, n) => scan f (r.drop (n - 1)) (if a.any fun z => decide (z.1 = x.n) then a else a ++ [(x.n, t)])
/-- a journal -/
structure JS where
  rs : List (Nat × List UInt8)
  bad : List Nat
  next : Nat
  fin : Nat
  closed : Bool
deriving DecidableEq, Inhabited
def cont (x : Sec) : List UInt8 := x.p.getD x.t
def found (l : List (List UInt8)) : JS where
  rs := scan l.length (l.map unpack) []
  bad := (List.range l.length).filter fun i => !(unpack (l.getD i [])).ok && !blank (l.getD i [])
  next := l.foldl (fun m s => max m ((unpack s).n + 1)) 1
  fin := (List.range l.length).foldl (fun m i => if blank (l.getD i []) then m else i + 1) 0
  closed := false
def aopen (d : DS) : Option JS × Int := if d.off then (none, 25) else (some (found (d.s.map cont)), 0)
def nums (j : JS) : List Nat := j.rs.map Prod.fst
def texts (j : JS) : List (List UInt8) := j.rs.map Prod.snd
def damaged (j : JS) : List Nat := ((List.range j.next).drop 1).filter fun n => !(nums j).contains n
def room (d : DS) (j : JS) : Int := (d.s.length : Int) - j.fin
/-- sectors are written, one by one -/
def awrites : DS → Nat → List (List UInt8) → Int × DS
  | d, _, [] => (0, d)
  | d, i, s :: r => if (awrite d i s).1 ≠ 0 then awrite d i s else awrites (awrite d i s).2 (i + 1) r
/-- sectors are read, one by one: an error, and whether they are these -/
def areads (d : DS) : Nat → List (List UInt8) → Bool → Int × Bool
  | _, [], b => (0, b)
  | i, s :: r, b => if (aread d i).2 ≠ 0 then ((aread d i).2, false) else areads d (i + 1) r (b && decide (s = (aread d i).1))
/-- Append: the number, the error, the journal and the disk -/
def aappend (d : DS) (j : JS) (t : List UInt8) : Int × Int × JS × DS :=
  if j.closed then (0, 25, j, d)
  else if 8000 < t.length ∨ 4096 < j.next then (0, 4, j, d)
  else if room d j < cntN t.length then (0, 24, j, d)
  else
    let w := awrites d j.fin (pack j.next t)
    let j1 : JS := { j with next := j.next + 1, fin := j.fin + cntN t.length }
    if w.1 ≠ 0 then (0, w.1, { j1 with closed := true }, w.2)
    else
      let f := aflush w.2
      if f.1 ≠ 0 then (0, f.1, { j1 with closed := true }, f.2)
      else
        let r := areads f.2 j.fin (pack j.next t) true
        if r.1 ≠ 0 then (0, r.1, { j1 with closed := true }, f.2)
        else if r.2 then ((j.next : Int), 0, { j1 with rs := j.rs ++ [(j.next, t)] }, f.2)
        else (0, 26, j1, f.2)
/-- the text of a step -/
def textOf (size : Int) (fill : UInt8) : List UInt8 := (List.range (max 0 (min size 8100)).toNat).map fun k => fill + UInt8.ofNat k
end Go.Jn
end
/- The journal in plain Lean: what a packed sector says; the record that packed sectors make. No program. -/
section
namespace Go.Jn
open Go.Disk Go.Sha Go.Own
theorem cntN_pos {n : Nat} (h : n ≤ 8000) : 1 ≤ cntN n ∧ cntN n ≤ 167 := by
  unfold cntN; split
  · omega
  · split <;> omega
/-- the sectors of a text -/
theorem cntN_lt {n k : Nat} (h : n ≤ 8000) (hk : k < cntN n) : 48 * k ≤ n ∧ (n = 48 * k → k = 0) ∧ n ≤ 48 * cntN n ∧ (k + 1 < cntN n → 48 * (k + 1) < n) := by
  unfold cntN at hk ⊢
  rw [if_neg (by omega)] at hk ⊢
  by_cases h0 : n = 0
  · rw [if_pos h0] at hk ⊢; omega
  · rw [if_neg h0] at hk ⊢; omega
theorem le_length : ∀ w n, (le w n).length = w
  | 0, _ => rfl
  | w + 1, n => by unfold le; rw [List.length_cons, le_length]
theorem num_le : ∀ w n, n < 256 ^ w → num (le w n) = n
  | 0, n, h => by simp at h; subst h; rfl
  | w + 1, n, h => by
    unfold le num
    rw [num_le w (n / 256) (by rw [Nat.pow_succ] at h; omega), UInt8.toNat_ofNat']
    have : n % 2 ^ 8 = n % 256 := rfl
    omega
theorem num_lt : ∀ l : List UInt8, num l < 256 ^ l.length
  | [] => by simp [num]
  | b :: r => by
    have h1 := num_lt r
    have h2 : b.toNat < 256 := b.toNat_lt
    unfold num
    rw [List.length_cons, Nat.pow_succ]
    generalize 256 ^ r.length = m at *
    omega
theorem head_length (n k : Nat) (r : List UInt8) : (head n k r).length = 56 := by
  unfold head
  simp only [List.length_append, le_length, List.length_take, List.length_replicate]
  omega
theorem stamp_length {b : List UInt8} (h : b.length = 56) : (stamp b).length = 64 := by
  unfold stamp
  rw [List.length_append, List.length_take, sha_length, h]; rfl
theorem sect_length (n : Nat) (t : List UInt8) (k : Nat) : (sect n t k).length = 64 := stamp_length (head_length _ _ _)
theorem sect_head (n : Nat) (t : List UInt8) (k : Nat) : (sect n t k).take 56 = head n k (t.drop (48 * k)) := by
  unfold sect stamp
  rw [List.take_append_of_le_length (by rw [head_length]; exact Nat.le_refl _), List.take_of_length_le (by rw [head_length]; exact Nat.le_refl _)]
theorem take_head {s h : List UInt8} (hs : s.take 56 = h) (i j : Nat) (hij : i + j ≤ 56) : (s.drop i).take j = (h.drop i).take j := by
  rw [← hs, List.drop_take, List.take_take, Nat.min_eq_left (by omega)]
theorem num_head (n k : Nat) (r : List UInt8) (hn : n < 4294967296) (hk : k < 65536) (hr : r.length < 65536) : num ((head n k r).take 4) = n ∧ num (((head n k r).drop 4).take 2) = k ∧ num (((head n k r).drop 6).take 2) = r.length ∧ (head n k r).drop 8 = r.take 48 ++ List.replicate (48 - r.length) 0 := by
  have e1 : (le 4 n).length = 4 := le_length _ _
  have e2 : (le 2 k).length = 2 := le_length _ _
  have e3 : (le 2 r.length).length = 2 := le_length _ _
  have a1 : (head n k r).drop 4 = le 2 k ++ (le 2 r.length ++ (r.take 48 ++ List.replicate (48 - r.length) 0)) := by unfold head; rw [List.drop_append_of_le_length (by omega), List.drop_of_length_le (by omega), List.nil_append]
  have a2 : (head n k r).drop 6 = le 2 r.length ++ (r.take 48 ++ List.replicate (48 - r.length) 0) := by rw [show 6 = 4 + 2 from rfl, ← List.drop_drop, a1, List.drop_append_of_le_length (by omega), List.drop_of_length_le (by omega), List.nil_append]
  have a3 : (head n k r).drop 8 = r.take 48 ++ List.replicate (48 - r.length) 0 := by rw [show 8 = 6 + 2 from rfl, ← List.drop_drop, a2, List.drop_append_of_le_length (by omega), List.drop_of_length_le (by omega), List.nil_append]
  refine ⟨?_, ?_, ?_, a3⟩
  · unfold head
    rw [List.take_append_of_le_length (by omega), List.take_of_length_le (by omega)]
    exact num_le 4 n hn
  · rw [a1, List.take_append_of_le_length (by omega), List.take_of_length_le (by omega)]
    exact num_le 2 k hk
  · rw [a2, List.take_append_of_le_length (by omega), List.take_of_length_le (by omega)]
    exact num_le 2 _ hr
/-- what a sector says depends on its first bytes -/
theorem of_head {s h : List UInt8} (hs : s.take 56 = h) : numOf s = num (h.take 4) ∧ prtOf s = num ((h.drop 4).take 2) ∧ leftOf s = num ((h.drop 6).take 2) := by
  refine ⟨?_, ?_, ?_⟩
  · unfold numOf; rw [← hs, List.take_take]; rfl
  · unfold prtOf; rw [take_head hs 4 2 (by omega)]
  · unfold leftOf; rw [take_head hs 6 2 (by omega)]
theorem unpack_sect {n : Nat} {t : List UInt8} {k : Nat} (hn : 1 ≤ n) (hn2 : n ≤ 4096) (ht : t.length ≤ 8000) (hk : k < cntN t.length) : unpack (sect n t k) = ⟨n, k, t.length - 48 * k, (t.drop (48 * k)).take 48, true⟩ := by
  obtain ⟨c1, c2, _⟩ := cntN_lt ht hk
  have c0 := (cntN_pos ht).2
  have hd : (t.drop (48 * k)).length = t.length - 48 * k := List.length_drop
  obtain ⟨a1, a2, a3, a4⟩ := num_head n k (t.drop (48 * k)) (by omega) (by omega) (by omega)
  obtain ⟨b1, b2, b3⟩ := of_head (sect_head n t k)
  rw [a1] at b1
  rw [a2] at b2
  rw [a3, hd] at b3
  have hl := sect_length n t k
  have hst : stamp ((sect n t k).take 56) = sect n t k := by rw [sect_head]; rfl
  have hz : ((((sect n t k).take 56).drop (8 + min (leftOf (sect n t k)) 48)).all (· == 0)) = true := by
    rw [sect_head, ← List.drop_drop, a4, b3, ← hd]
    have e : ((t.drop (48 * k)).take 48).length = min ((t.drop (48 * k)).length) 48 := by rw [List.length_take]; omega
    rw [List.drop_append_of_le_length (by omega), List.drop_of_length_le (by omega), List.nil_append, List.all_eq_true]
    intro x hx
    rw [List.eq_of_mem_replicate hx]; rfl
  have hg : goodB (sect n t k) = true := by
    unfold goodB
    rw [hz, hst, b1, b2, b3, hl]
    have e5 : 48 * k + (t.length - 48 * k) ≤ 8000 := by omega
    by_cases h0 : t.length - 48 * k = 0
    · have : k = 0 := c2 (by omega)
      simp [hn, hn2, this]; omega
    · simp [hn, hn2, e5, h0]
  unfold unpack
  rw [if_pos hg, b1, b2, b3]
  have e6 : ((sect n t k).drop 8).take (min (t.length - 48 * k) 48) = (t.drop (48 * k)).take 48 := by
    rw [take_head (sect_head n t k) 8 _ (by omega), a4]
    have e : ((t.drop (48 * k)).take 48).length = min (t.length - 48 * k) 48 := by rw [List.length_take, hd]; omega
    rw [← e, List.take_left]
  rw [e6]
/-- a good sector is known by what it says -/
theorem good_parts {s : List UInt8} (h : goodB s = true) : s.length = 64 ∧ stamp (s.take 56) = s ∧ 1 ≤ numOf s ∧ numOf s ≤ 4096 ∧ 48 * prtOf s + leftOf s ≤ 8000 ∧ (leftOf s = 0 → prtOf s = 0) := by
  unfold goodB at h
  simp only [Bool.and_eq_true, decide_eq_true_eq, Bool.not_eq_true', Bool.and_eq_false_iff, decide_eq_false_iff_not] at h
  obtain ⟨⟨⟨⟨⟨⟨h1, h2⟩, h3⟩, h4⟩, h5⟩, h6⟩, _⟩ := h
  refine ⟨h1, h2, h3, h4, h5, fun h0 => ?_⟩
  rcases h6 with h6 | h6
  · exact absurd h0 h6
  · omega
theorem unpack_ok (s : List UInt8) : (unpack s).ok = goodB s := by unfold unpack; split <;> simp_all [prt0]
theorem unpack_l (s : List UInt8) : (unpack s).l ≤ 8000 := by
  unfold unpack
  split
  · rename_i h; have := (good_parts h).2.2.2.2.1; dsimp only; omega
  · exact Nat.zero_le _
theorem unpack_n (s : List UInt8) : (unpack s).n ≤ 4096 := by
  unfold unpack
  split
  · rename_i h; exact (good_parts h).2.2.2.1
  · exact Nat.zero_le _
theorem num_zero : ∀ l : List UInt8, (∀ x ∈ l, x = 0) → num l = 0
  | [], _ => rfl
  | b :: r, h => by
    unfold num
    rw [h b (List.mem_cons_self ..), num_zero r fun x hx => h x (List.mem_cons_of_mem _ hx)]; rfl
theorem blank_bad {s : List UInt8} (h : blank s = true) : goodB s = false := by
  cases hg : goodB s with
  | false => rfl
  | true =>
    have h1 := (good_parts hg).2.2.1
    unfold blank at h
    rw [List.all_eq_true] at h
    have : numOf s = 0 := num_zero _ fun x hx => by simpa using h x (List.mem_of_mem_take hx)
    omega
theorem sect_blank {n : Nat} {t : List UInt8} {k : Nat} (hn : 1 ≤ n) (hn2 : n ≤ 4096) (ht : t.length ≤ 8000) (hk : k < cntN t.length) : blank (sect n t k) = false := by
  cases hb : blank (sect n t k) with
  | false => rfl
  | true =>
    have h1 := blank_bad hb
    have h2 := unpack_ok (sect n t k)
    rw [unpack_sect hn hn2 ht hk, h1] at h2
    cases h2
theorem pack_length (n : Nat) (t : List UInt8) : (pack n t).length = cntN t.length := by unfold pack; rw [List.length_map, List.length_range]
theorem pack_at {n : Nat} {t : List UInt8} {k : Nat} (hk : k < cntN t.length) : (pack n t)[k]? = some (sect n t k) := by unfold pack; simp [hk]
end Go.Jn
end
/- The journal in plain Lean: what is found among sectors. No program. -/
section
namespace Go.Jn
open Go.Disk Go.Sha Go.Own
theorem scan_fuel : ∀ (f : Nat) (l : List Prt) (a : List (Nat × List UInt8)), l.length ≤ f → scan f l a = scan l.length l a := by
  intro f
  induction f using Nat.strongRecOn with
  | _ f ih =>
    intro l a hl
    cases l with
    | nil => cases f <;> rfl
    | cons x r =>
      rw [List.length_cons] at hl
      obtain ⟨g, rfl⟩ : ∃ g, f = g + 1 := ⟨f - 1, by omega⟩
      rw [List.length_cons]
      unfold scan
      split
      · exact ih g (by omega) r a (by omega)
      · rename_i t n _
        have h1 : (r.drop (n - 1)).length ≤ r.length := by rw [List.length_drop]; omega
        rw [ih g (by omega) _ _ (by omega)]
        exact (ih r.length (by omega) _ _ h1).symm
def scanL (l : List Prt) (a : List (Nat × List UInt8)) : List (Nat × List UInt8) := scan l.length l a
theorem scanL_nil (a : List (Nat × List UInt8)) : scanL [] a = a := rfl
theorem scanL_none {x : Prt} {r : List Prt} {a : List (Nat × List UInt8)} (h : recAt (x :: r) = none) : scanL (x :: r) a = scanL r a := by
  unfold scanL
  rw [List.length_cons]
  conv => lhs; unfold scan
  rw [h]
theorem scanL_some {x : Prt} {r : List Prt} {a : List (Nat × List UInt8)} {t : List UInt8} {n : Nat} (h : recAt (x :: r) = some (t, n)) : scanL (x :: r) a = scanL (r.drop (n - 1)) (if a.any fun z => decide (z.1 = x.n) then a else a ++ [(x.n, t)]) := by
  unfold scanL
  rw [List.length_cons]
  conv => lhs; unfold scan
  rw [h]
  exact scan_fuel _ _ _ (by rw [List.length_drop]; omega)
theorem recAt_bad {x : Prt} {r : List Prt} (h : x.ok = false ∨ x.k ≠ 0) : recAt (x :: r) = none := by
  unfold recAt
  dsimp only
  rw [if_neg]
  rcases h with h | h <;> simp [h]
theorem scanL_bads : ∀ (l : List Prt) (a : List (Nat × List UInt8)) (r : List Prt), (∀ x ∈ l, x.ok = false ∨ x.k ≠ 0) → scanL (l ++ r) a = scanL r a
  | [], _, _, _ => rfl
  | x :: l, a, r, h => by
    rw [List.cons_append, scanL_none (recAt_bad (h x (List.mem_cons_self ..)))]
    exact scanL_bads l a r fun y hy => h y (List.mem_cons_of_mem _ hy)
/-- what the packed sectors of a text say -/
def parts (n : Nat) (t : List UInt8) : List Prt := (List.range (cntN t.length)).map fun k => ⟨n, k, t.length - 48 * k, (t.drop (48 * k)).take 48, true⟩
theorem parts_length (n : Nat) (t : List UInt8) : (parts n t).length = cntN t.length := by unfold parts; rw [List.length_map, List.length_range]
theorem parts_pack {n : Nat} {t : List UInt8} (hn : 1 ≤ n) (hn2 : n ≤ 4096) (ht : t.length ≤ 8000) : (pack n t).map unpack = parts n t := by
  unfold pack parts
  rw [List.map_map]
  refine List.map_congr_left fun k hk => ?_
  exact unpack_sect hn hn2 ht (List.mem_range.1 hk)
theorem chop_all : ∀ (c : Nat) (t : List UInt8), t.length ≤ 48 * c → ((List.range c).map fun k => (t.drop (48 * k)).take 48).flatten = t
  | 0, t, h => by
    have : t = [] := List.eq_nil_of_length_eq_zero (by omega)
    subst this; rfl
  | c + 1, t, h => by
    rw [List.range_succ_eq_map, List.map_cons, List.flatten_cons, List.map_map]
    have e : ((fun k => List.take 48 (List.drop (48 * k) t)) ∘ Nat.succ) = fun k => ((t.drop 48).drop (48 * k)).take 48 := by
      funext k
      show List.take 48 (List.drop (48 * (k + 1)) t) = _
      rw [List.drop_drop, show 48 * (k + 1) = 48 + 48 * k by omega]
    rw [e, chop_all c (t.drop 48) (by rw [List.length_drop]; omega)]
    simp
theorem parts_text {n : Nat} {t : List UInt8} (ht : t.length ≤ 8000) : ((parts n t).map Prt.b).flatten = t := by
  unfold parts
  rw [List.map_map]
  refine chop_all _ t ?_
  unfold cntN
  rw [if_neg (by omega)]
  split <;> omega
theorem parts_getD {n : Nat} {t : List UInt8} {k : Nat} (hk : k < cntN t.length) (r : List Prt) : (parts n t ++ r).getD k prt0 = ⟨n, k, t.length - 48 * k, (t.drop (48 * k)).take 48, true⟩ := by
  rw [List.getD_eq_getElem?_getD, List.getElem?_append_left (by rw [parts_length]; exact hk)]
  unfold parts
  simp [hk]
theorem parts_cons (n : Nat) {t : List UInt8} (ht : t.length ≤ 8000) : ∃ r, parts n t = ⟨n, 0, t.length, t.take 48, true⟩ :: r ∧ r.length = cntN t.length - 1 := by
  obtain ⟨c, hc⟩ : ∃ c, cntN t.length = c + 1 := ⟨cntN t.length - 1, by have := cntN_pos ht; omega⟩
  unfold parts
  rw [hc, List.range_succ_eq_map, List.map_cons]
  exact ⟨_, rfl, by simp⟩
/-- the sectors of a record make the record -/
theorem recAt_parts {n : Nat} {t : List UInt8} (ht : t.length ≤ 8000) (r : List Prt) : recAt (parts n t ++ r) = some (t, cntN t.length) := by
  obtain ⟨q, hq, hql⟩ := parts_cons n ht
  have hg := fun k (hk : k < cntN t.length) => parts_getD (n := n) hk r
  have htx := parts_text (n := n) ht
  have hl := parts_length n t
  have htk : (parts n t ++ r).take (cntN t.length) = parts n t := by rw [← hl, List.take_left]
  have hll : cntN t.length ≤ (parts n t ++ r).length := by rw [List.length_append, hl]; omega
  rw [hq, List.cons_append] at hg htk hll ⊢
  rw [hq] at htx
  unfold recAt
  dsimp only
  rw [if_pos]
  · rw [htk, htx]
  · simp only [Bool.and_eq_true, decide_eq_true_eq, List.all_eq_true, List.mem_range, decide_true, Bool.true_and]
    refine ⟨hll, fun k hk => ?_⟩
    rw [hg k hk]
    have := (cntN_lt ht hk).1
    simp; omega
theorem scanL_parts {n : Nat} {t : List UInt8} (ht : t.length ≤ 8000) (r : List Prt) (a : List (Nat × List UInt8)) (ha : ∀ z ∈ a, z.1 ≠ n) : scanL (parts n t ++ r) a = scanL r (a ++ [(n, t)]) := by
  have h := recAt_parts (n := n) ht r
  obtain ⟨q, hq, hql⟩ := parts_cons n ht
  rw [hq, List.cons_append] at h ⊢
  rw [scanL_some h]
  dsimp only
  rw [if_neg (by rw [List.any_eq_true]; rintro ⟨z, hz, e⟩; exact ha z hz (by simpa using e)), ← hql, List.drop_left]
/-- sectors of a record, of which one at least says nothing, make no record -/
theorem scanL_broken {n : Nat} {t : List UInt8} (_ht : t.length ≤ 8000) {l : List Prt} (hl : l.length = cntN t.length) (h : ∀ i (hi : i < l.length), l[i].ok = false ∨ l[i] = ⟨n, i, t.length - 48 * i, (t.drop (48 * i)).take 48, true⟩) (hb : ∃ i, ∃ hi : i < l.length, l[i].ok = false) (r : List Prt) (a : List (Nat × List UInt8)) : scanL (l ++ r) a = scanL r a := by
  cases l with
  | nil => rfl
  | cons x q =>
    have hq : ∀ y ∈ q, y.ok = false ∨ y.k ≠ 0 := fun y hy => by
      obtain ⟨i, hi, rfl⟩ := List.getElem_of_mem hy
      rcases h (i + 1) (by rw [List.length_cons]; omega) with h1 | h1
      · rw [List.getElem_cons_succ] at h1; exact .inl h1
      · rw [List.getElem_cons_succ] at h1; right; rw [h1]; dsimp only; omega
    have hx : recAt (x :: (q ++ r)) = none := by
      rcases h 0 (by rw [List.length_cons]; omega) with h1 | h1
      · exact recAt_bad (.inl h1)
      · rw [List.getElem_cons_zero] at h1
        obtain ⟨i, hi, h2⟩ := hb
        unfold recAt
        dsimp only
        rw [if_neg]
        intro hall
        simp only [Bool.and_eq_true, decide_eq_true_eq, List.all_eq_true, List.mem_range] at hall
        obtain ⟨_, hall⟩ := hall
        have hc : cntN x.l = cntN t.length := by rw [h1]; rfl
        have h3 := (hall i (by rw [hc, ← hl]; exact hi)).1.1.1
        rw [← List.cons_append, List.getD_eq_getElem?_getD, List.getElem?_append_left hi, List.getElem?_eq_getElem hi, Option.getD_some, h2] at h3
        cases h3
    rw [List.cons_append, scanL_none hx]
    exact scanL_bads q a r hq
theorem found_rs (l : List (List UInt8)) : (found l).rs = scanL (l.map unpack) [] := by unfold found scanL; rw [List.length_map]
end Go.Jn
end
/- The disk's laws in plain Lean: scripts, settling in one sweep, what is kept, torn and rotten. No program. -/
section
namespace Go.Disk
open Go.RowKit Go.Own

/-- Settling all pending sectors in one sweep. -/
def sall : List Int → List Sec → List Sec
  | _, [] => []
  | ps, x :: xs => if x.p.isSome then settle1 (ps.headD 64) x :: sall ps.tail xs else x :: sall ps xs
def cnt (s : List Sec) (i : Nat) : Nat := (s.take i).countP fun x => x.p.isSome

theorem apend_cons (x : Sec) (xs : List Sec) : apend (x :: xs) = (if x.p.isSome then [0] else []) ++ (apend xs).map (· + 1) := by
  unfold apend
  rw [List.length_cons, List.range_succ_eq_map, List.filter_cons]
  have e : List.filter (fun i => ((x :: xs).getD i default).p.isSome) (List.map Nat.succ (List.range xs.length)) = (List.filter (fun i => (xs.getD i default).p.isSome) (List.range xs.length)).map (· + 1) := by
    rw [List.filter_map]
    rfl
  rw [e]
  simp only [List.getD_cons_zero]
  split <;> rfl
theorem settleTo_pre (pre : List Sec) : ∀ (ps : List Int) (L : List Nat) (s : List Sec), settleTo ps (L.map (· + pre.length)) (pre ++ s) = pre ++ settleTo ps L s
  | _, [], _ => rfl
  | ps, i :: L, s => by
    have e : (pre ++ s).modify (i + pre.length) (settle1 (ps.headD 64)) = pre ++ s.modify i (settle1 (ps.headD 64)) := by
      apply List.ext_getElem?
      intro j
      rw [List.getElem?_modify]
      by_cases hj : j < pre.length
      · have h : ¬ i + pre.length = j := by omega
        rw [List.getElem?_append_left hj, List.getElem?_append_left hj]
        simp [h]
      · rw [List.getElem?_append_right (by omega), List.getElem?_append_right (by omega), List.getElem?_modify]
        by_cases h : i = j - pre.length
        · have h2 : i + pre.length = j := by omega
          simp [h, show j - pre.length + pre.length = j by omega]
        · have h2 : ¬ i + pre.length = j := by omega
          simp [h, h2]
    rw [List.map_cons, settleTo, e, settleTo_pre pre, settleTo]
theorem settleTo_sall : ∀ (s : List Sec) (ps : List Int), settleTo ps (apend s) s = sall ps s
  | [], _ => rfl
  | x :: xs, ps => by
    rw [apend_cons]
    by_cases hx : x.p.isSome = true
    · rw [if_pos hx]
      have := settleTo_pre [settle1 (ps.headD 64) x] ps.tail (apend xs) xs
      simp only [List.length_singleton, List.singleton_append] at this ⊢
      rw [settleTo, sall, if_pos hx, ← settleTo_sall xs, ← this]
      rfl
    · rw [if_neg hx]
      have := settleTo_pre [x] ps (apend xs) xs
      simp only [List.length_singleton, List.singleton_append, List.nil_append] at this ⊢
      rw [this, sall, if_neg hx, settleTo_sall xs]
theorem sall_length : ∀ (s : List Sec) (ps : List Int), (sall ps s).length = s.length
  | [], _ => rfl
  | x :: xs, ps => by unfold sall; split <;> simp [sall_length xs]
theorem sall_getD : ∀ (s : List Sec) (ps : List Int) (i : Nat), i < s.length → (sall ps s).getD i default = if (s.getD i default).p.isSome then settle1 (ps.getD (cnt s i) 64) (s.getD i default) else s.getD i default
  | [], _, _, h => by simp at h
  | x :: xs, ps, 0, _ => by
    unfold sall
    by_cases hx : x.p.isSome = true
    · simp [hx, cnt, List.headD_eq_head?_getD, List.head?_eq_getElem?]
    · simp [hx]
  | x :: xs, ps, i + 1, h => by
    have ih := fun ps => sall_getD xs ps i (by simpa using h)
    unfold sall
    by_cases hx : x.p.isSome = true
    · rw [if_pos hx]
      have e : cnt (x :: xs) (i + 1) = cnt xs i + 1 := by simp [cnt, hx]
      rw [List.getD_cons_succ, ih, List.getD_cons_succ, e]
      have e2 : ps.tail.getD (cnt xs i) 64 = ps.getD (cnt xs i + 1) 64 := by simp [List.getD_eq_getElem?_getD]
      rw [e2]
    · rw [if_neg hx]
      have e : cnt (x :: xs) (i + 1) = cnt xs i := by simp [cnt, hx]
      rw [List.getD_cons_succ, ih, List.getD_cons_succ, e]
theorem cnt_succ (s : List Sec) (i : Nat) (h : i < s.length) : cnt s (i + 1) = cnt s i + if (s.getD i default).p.isSome then 1 else 0 := by
  unfold cnt
  rw [List.take_add_one, List.getElem?_eq_getElem h, List.countP_append, List.getD_eq_getElem?_getD, List.getElem?_eq_getElem h]
  simp [List.countP_cons]

/-- An operation of a script. -/
structure Op where
  kind : Int
  i : Int
  bit : Int
  text : List UInt8
  picks : List Int
def opText (s : List UInt8) : List UInt8 := if s = [] then [] else s ++ List.replicate (64 - s.length) (s.getLastD 0)
def ado (d : DS) (o : Op) : (List UInt8 × Int) × DS :=
  if o.kind = 1 then (([], (awrite d o.i (opText o.text)).1), (awrite d o.i (opText o.text)).2)
  else if o.kind = 2 then (aread d o.i, d)
  else if o.kind = 3 then (([], (aflush d).1), (aflush d).2)
  else if o.kind = 4 then (([], 0), atrip d o.i)
  else if o.kind = 5 then (([], 0), amount d o.picks)
  else if o.kind = 6 then (([], (arot d o.i o.bit).1), (arot d o.i o.bit).2)
  else if o.kind = 7 then (([], (awear d o.i).1), (awear d o.i).2)
  else (([], 0), d)
def arun (d : DS) (l : List Op) : DS := l.foldl (fun d o => (ado d o).2) d

theorem sall_mem {s : List Sec} : ∀ {ps : List Int} {x : Sec}, x ∈ sall ps s → ∃ y ∈ s, x = y ∨ ∃ p, x = settle1 p y := by
  induction s with
  | nil => intro ps x h; cases h
  | cons y ys ih =>
    intro ps x h
    unfold sall at h
    by_cases hy : y.p.isSome = true
    · rw [if_pos hy] at h
      rcases List.mem_cons.1 h with rfl | h
      · exact ⟨y, List.mem_cons_self, .inr ⟨_, rfl⟩⟩
      · obtain ⟨z, hz, hh⟩ := ih h
        exact ⟨z, List.mem_cons_of_mem _ hz, hh⟩
    · rw [if_neg hy] at h
      rcases List.mem_cons.1 h with rfl | h
      · exact ⟨x, List.mem_cons_self, .inl rfl⟩
      · obtain ⟨z, hz, hh⟩ := ih h
        exact ⟨z, List.mem_cons_of_mem _ hz, hh⟩
theorem Ok.sall {d : DS} (h : Ok d) (ps : List Int) (off : Bool) (left : Int) (hl : -1 ≤ left ∧ left ≤ 9223372036854775807) : Ok { s := sall ps d.s, off := off, left := left } where
  t := fun x hx => by
    obtain ⟨y, hy, rfl | ⟨p, rfl⟩⟩ := sall_mem hx
    · exact h.t _ hy
    · exact (settle1_len p y (h.t _ hy) (h.p _ hy)).1
  p := fun x hx => by
    obtain ⟨y, hy, rfl | ⟨p, rfl⟩⟩ := sall_mem hx
    · exact h.p _ hy
    · exact (settle1_len p y (h.t _ hy) (h.p _ hy)).2
  pos := by simpa [sall_length] using h.pos
  most := by simpa [sall_length] using h.most
  left := hl
theorem rotT_len (b : Nat) (t : List UInt8) : (rotT b t).length = t.length := by simp [rotT]
theorem ado_len (d : DS) (o : Op) : (ado d o).2.s.length = d.s.length := by
  unfold ado
  have h1 : ∀ i b, (awrite d i b).2.s.length = d.s.length := fun i b => by
    unfold awrite
    split
    · rfl
    · split
      · rfl
      · split
        · rw [astep_s]
        · simp [upd, astep_s]
  have h3 : (aflush d).2.s.length = d.s.length := by
    unfold aflush
    split
    · rfl
    · split
      · rw [astep_s]
      · simp only [settleTo_sall, sall_length]
  have h6 : ∀ i b, (arot d i b).2.s.length = d.s.length := fun i b => by
    unfold arot
    split
    · simp [upd]
    · rfl
  have h7 : ∀ i, (awear d i).2.s.length = d.s.length := fun i => by
    unfold awear
    split
    · simp [upd]
    · rfl
  repeat' split
  all_goals first | exact h1 _ _ | exact h3 | exact h6 _ _ | exact h7 _ | rfl | (simp only [amount, settleTo_sall, sall_length])
end Go.Disk
end
