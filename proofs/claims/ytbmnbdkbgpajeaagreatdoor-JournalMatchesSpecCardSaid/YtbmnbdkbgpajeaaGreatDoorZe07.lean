/- The program's disk in memory; the small functions. -/
import Derived.Test.YtbmnbdkbgpajeaaGreatDoorZe06
import Derived.Test.YtbmnbdkbgpajeaaGreatDoorRows
import Derived.Test.YtbmnbdkbgpajeaaGreatDoorZe00
import Derived.WalkMore
import Derived.Test.YtbmnbdkbgpajeaaGreatDoorZe04
import Derived.Deep.CutBlock
/- The program's disk in memory; the small functions. -/
section
namespace Go.Proofs.YtbmnbdkbgpajeaaGreatDoor
open Go.RowKit Go.Own Go.Disk

/-- The four blocks of a disk. -/
structure Ft where
  p : Nat
  bb : Nat
  pb : Nat
  wb : Nat
  cap : Nat
  sp : List Value
def Ft.all (f : Ft) : List Nat := [f.p, f.bb, f.pb, f.wb]
structure PD (w : World) (f : Ft) (d : DS) : Prop where
  fit : d.s.length ≤ f.cap ∧ f.cap ≤ maxLen
  head : ∃ l : Int, Blk w f.p [.slice (some ⟨f.bb, 0, none⟩) d.s.length f.cap, .map (some f.pb), .map (some f.wb), .bool d.off, .int .i64 l] 77 ∧ max (-1) l = d.left ∧ -9223372036854775808 ≤ l
  blocks : Blk w f.bb (flatS d.s f.sp) 86
  pend : ∃ m, IMap w f.pb m ∧ (∀ k, mget m k = if inR d k then (sec d k).p.map bval else none) 
  worn : ∃ m, IMap w f.wb m ∧ ∀ k, mget m k = if inR d k && (sec d k).w then some (.bool true) else none
  ok : Ok d
  apart : f.p ≠ f.bb ∧ f.p ≠ f.pb ∧ f.p ≠ f.wb ∧ f.bb ≠ f.pb ∧ f.bb ≠ f.wb ∧ f.pb ≠ f.wb
theorem PD.chg {w w' : World} {f : Ft} {d : DS} {F : List Nat} (h : PD w f d) (hc : Chg F w w') (hF : ∀ x ∈ f.all, x ∉ F) : PD w' f d := by
  obtain ⟨hft, ⟨l, h1, h2⟩, h3, ⟨m, h4, h5⟩, ⟨m', h6, h7⟩, h8, h9⟩ := h
  exact ⟨hft, ⟨l, h1.chg hc (hF _ (by simp [Ft.all])), h2⟩, h3.chg hc (hF _ (by simp [Ft.all])), ⟨m, h4.chg hc (hF _ (by simp [Ft.all])), h5⟩, ⟨m', h6.chg hc (hF _ (by simp [Ft.all])), h7⟩, h8, h9⟩
theorem PD.below {w w' : World} {f : Ft} {d : DS} (h : PD w f d) (hc : Below w.heap.size w w') : PD w' f d := h.chg (.of_below (F := []) hc) (by simp)
theorem PD.lt {w : World} {f : Ft} {d : DS} (h : PD w f d) : ∀ x ∈ f.all, x < w.heap.size := by
  obtain ⟨hft, ⟨l, h1, h2⟩, h3, ⟨m, h4, h5⟩, ⟨m', h6, h7⟩, h8, h9⟩ := h
  have := h1.lt; have := h3.lt; have := h4.lt; have := h6.lt
  simp only [Ft.all, List.mem_cons, List.not_mem_nil, or_false]
  rintro x (rfl | rfl | rfl | rfl) <;> assumption

theorem len_any (f : Ft) (d : DS) (w : World) (h : PD w f d) : Calls Tryz.prog 47 #[.pointer (some ⟨f.p, 0, none⟩)] w fun e w' => e = .returned (.int .i64 d.s.length) ∧ w' = w := by
  obtain ⟨l, hB, _⟩ := h.head
  have c0 : w.cell? ⟨f.p, 0, none⟩ = some (.slice (some ⟨f.bb, 0, none⟩) d.s.length f.cap) := hB.cell rfl
  go_enter Tryz.func47, Tryz.ntmps47
  go_wp2
  go_ret
  exact ⟨rfl, rfl⟩
theorem check_any (f : Ft) (d : DS) (i : Int) (w : World) (h : PD w f d) : Calls Tryz.prog 43 #[.pointer (some ⟨f.p, 0, none⟩), .int .i64 i] w fun e w' => e = .returned (.int .i64 (acheck d i)) ∧ w' = w := by
  obtain ⟨l, hB, _⟩ := h.head
  have c0 : w.cell? ⟨f.p, 0, none⟩ = some (.slice (some ⟨f.bb, 0, none⟩) d.s.length f.cap) := hB.cell rfl
  have c3 : w.cell? ⟨f.p, 3, none⟩ = some (.bool d.off) := hB.cell rfl
  go_enter Tryz.func43, Tryz.ntmps43
  cases hoff : d.off with
  | true =>
    rw [hoff] at c3
    go_wp2
    go_ret
    exact ⟨by first | rfl | simp [acheck, hoff], rfl⟩
  | false =>
    rw [hoff] at c3
    by_cases h0 : i < 0
    · have e : acheck d i = 1 := by simp [acheck, hoff, inR, show ¬ 0 ≤ i by omega]
      go_wp2
      go_ret
      exact ⟨by first | rfl | simp [e], rfl⟩
    · by_cases h1 : (d.s.length : Int) ≤ i
      · have e : acheck d i = 1 := by simp [acheck, hoff, inR, show ¬ i < (d.s.length : Int) by omega]
        go_wp2
        go_ret
        exact ⟨by first | rfl | simp [e], rfl⟩
      · have e : acheck d i = 0 := by simp [acheck, hoff, inR, show 0 ≤ i by omega, show i < (d.s.length : Int) by omega]
        go_wp2
        go_ret
        exact ⟨by first | rfl | simp [e], rfl⟩
theorem PD.withHead {w w' : World} {f : Ft} {d d' : DS} (h : PD w f d) (hs : d'.s = d.s) (hd : -1 ≤ d'.left ∧ d'.left ≤ 9223372036854775807) (l : Int)
    (hB : Blk w' f.p [.slice (some ⟨f.bb, 0, none⟩) d.s.length f.cap, .map (some f.pb), .map (some f.wb), .bool d'.off, .int .i64 l] 77) (hl : max (-1) l = d'.left) (hl2 : -9223372036854775808 ≤ l) (hc : Chg [f.p] w w') : PD w' f d' := by
  obtain ⟨hft, _, h3, ⟨m, h4, h5⟩, ⟨m', h6, h7⟩, h8, h9⟩ := h
  obtain ⟨s', o', l'⟩ := d'
  obtain ⟨s, o, l0⟩ := d
  dsimp only at *
  subst hs
  exact ⟨hft, ⟨l, hB, hl, hl2⟩, h3.chg hc (by simp; exact Ne.symm h9.1), ⟨m, h4.chg hc (by simp; exact Ne.symm h9.2.1), h5⟩, ⟨m', h6.chg hc (by simp; exact Ne.symm h9.2.2.1), h7⟩, ⟨h8.t, h8.p, h8.pos, h8.most, hd⟩, h9⟩
theorem step_any (f : Ft) (d : DS) (w : World) (h : PD w f d) : Calls Tryz.prog 44 #[.pointer (some ⟨f.p, 0, none⟩)] w fun e w' => e = .returned (.int .i64 (astep d).1) ∧ PD w' f (astep d).2 ∧ Chg [f.p] w w' := by
  obtain ⟨l, hB, hl, hl2⟩ := h.head
  have hleft := h.ok.left
  have c4 : w.cell? ⟨f.p, 4, none⟩ = some (.int .i64 l) := hB.cell rfl
  have hfr := hB.frozen
  have c3 : w.cell? ⟨f.p, 3, none⟩ = some (.bool d.off) := hB.cell rfl
  have c4' : w.cell? ⟨f.p, 4, none⟩ = some (.int .i64 l) := hB.cell rfl
  have hst := h.ok.step.left
  go_enter Tryz.func44, Tryz.ntmps44
  by_cases h0 : l = 0
  · subst h0
    have e : astep d = (25, { d with off := true }) := by unfold astep; rw [if_pos (by omega)]
    have k := h.withHead (d' := { d with off := true }) (w' := w.setCell ⟨f.p, 3, none⟩ (.bool true)) rfl hleft 0 (hB.set 3 _) hl hl2 ((Chg.refl _ _).set _ (by simp))
    go_wp2
    go_ret
    refine ⟨by first | rfl | simp [e], ?_, (Chg.refl _ _).set _ (by simp)⟩
    first | exact k | (rw [e]; exact k)
  · by_cases h1 : 0 < l
    · have e : astep d = (0, { d with left := d.left - 1 }) := by unfold astep; rw [if_neg (by omega), if_pos (by omega)]
      rw [e] at hst
      have k := h.withHead (d' := { d with left := d.left - 1 }) (w' := w.setCell ⟨f.p, 4, none⟩ (.int .i64 (l - 1))) rfl hst (l - 1) (hB.set 4 _) (show max (-1) (l - 1) = d.left - 1 by omega) (by omega) ((Chg.refl _ _).set _ (by simp))
      have hw : IntKind.i64.wrap (l - 1) = l - 1 := IntWalk.i64_in _ (by omega)
      go_wp2
      go_ret
      refine ⟨by first | rfl | simp [e], ?_, (Chg.refl _ _).set _ (by simp)⟩
      first | exact k | (rw [e]; exact k)
    · have e : astep d = (0, d) := by unfold astep; rw [if_neg (by omega), if_neg (by omega)]
      go_wp2
      go_ret
      refine ⟨by first | rfl | simp [e], ?_, Chg.refl _ _⟩
      first | exact h | (rw [e]; exact h)
theorem trip_any (f : Ft) (d : DS) (n : Int) (hn : -9223372036854775808 ≤ n ∧ n ≤ 9223372036854775807) (w : World) (h : PD w f d) : Calls Tryz.prog 25 #[.pointer (some ⟨f.p, 0, none⟩), .int .i64 n] w fun e w' => e = .returned (.tuple #[]) ∧ PD w' f (atrip d n) ∧ Chg [f.p] w w' := by
  obtain ⟨l, hB, hl, hl2⟩ := h.head
  have hfr := hB.frozen
  have c3 : w.cell? ⟨f.p, 3, none⟩ = some (.bool d.off) := hB.cell rfl
  have c4' : w.cell? ⟨f.p, 4, none⟩ = some (.int .i64 l) := hB.cell rfl
  have k := h.withHead (d' := atrip d n) (w' := w.setCell ⟨f.p, 4, none⟩ (.int .i64 n)) rfl (by simp only [atrip]; omega) n (hB.set 4 _) rfl hn.1 ((Chg.refl _ _).set _ (by simp))
  go_enter Tryz.func25, Tryz.ntmps25
  go_wp2
  refine bodyPost_end (results_none rfl _ _ _) rfl ?_
  exact ⟨rfl, k, (Chg.refl _ _).set _ (by simp)⟩
end Go.Proofs.YtbmnbdkbgpajeaaGreatDoor
end
/- Read and Image of the program's disk. -/
section
namespace Go.Proofs.YtbmnbdkbgpajeaaGreatDoor
open Go.RowKit Go.Own Go.Disk
attribute [local go_sem] setCell_twice str_size
theorem hTp : Tryz.prog.underlying 75 = some (.map 3 86) := by kernel_rfl
theorem hKp : Tryz.prog.underlying 3 = some (.int .i64) := by kernel_rfl
theorem hTw : Tryz.prog.underlying 45 = some (.map 3 4) := by kernel_rfl
theorem hTb : Tryz.prog.underlying 81 = some (.slice 5) := by kernel_rfl
theorem hT8 : Tryz.prog.underlying 5 = some (.int .u8) := by kernel_rfl
theorem hTs : Tryz.prog.underlying 9 = some .string := by kernel_rfl
theorem hTblk : Tryz.prog.underlying 86 = some (.array 64 5) := by kernel_rfl
def zero64 : List Value := zeros.map byv
theorem zeroBlk (w : World) : (zeroValue 86).run Tryz.prog w = .ok (.agg zero64.toArray) w := by kernel_rfl
theorem convB (w : World) (v : Value) (bs : List UInt8) (h : Sl w 1 v bs.length (bs.map byv)) : (convert 81 9 v).run Tryz.prog w = .ok (str bs) w :=
  run_bytes_str hTb hT8 hTs h
theorem lookP {w : World} {f : Ft} {d : DS} (h : PD w f d) {i : Int} (hi : inR d i = true) (ok : Bool) :
    (Instr.lookup 75 (.map (some f.pb)) (.int .i64 i) ok).run Tryz.prog w = .ok (if ok then .tuple #[bval ((sec d i).p.getD zeros), .bool (sec d i).p.isSome] else bval ((sec d i).p.getD zeros)) w := by
  obtain ⟨m, hm, hg⟩ := h.pend
  have := run_lookup_imap hTp hKp hm (zeroBlk w) i ok
  rw [this, hg i, hi]
  cases (sec d i).p <;> rfl
theorem read_any (f : Ft) (d : DS) (i : Int) (w : World) (h : PD w f d) : Calls Tryz.prog 48 #[.pointer (some ⟨f.p, 0, none⟩), .int .i64 i] w fun e w' => e = .returned (.tuple #[str (aread d i).1, .int .i64 (aread d i).2]) ∧ Below w.heap.size w w' := by
  obtain ⟨l, hB, _⟩ := h.head
  have c0 : w.cell? ⟨f.p, 0, none⟩ = some (.slice (some ⟨f.bb, 0, none⟩) d.s.length f.cap) := hB.cell rfl
  have c1 : w.cell? ⟨f.p, 1, none⟩ = some (.map (some f.pb)) := hB.cell rfl
  have hlt := h.lt
  have hz := fun W => zeroBlk W
  go_enter Tryz.func48, Tryz.ntmps48
  by_cases hc : acheck d i = 0
  · have hi : inR d i = true := by
      unfold acheck at hc
      split at hc
      · cases hc
      · split at hc
        · assumption
        · cases hc
    have hk : aread d i = ((sec d i).p.getD (sec d i).t, 0) := by simp [aread, hc]
    obtain ⟨hm, hil, hi0, hse⟩ := sec_mem hi
    have hlk := lookP h hi true
    have hok := h.ok
    obtain ⟨n, hn⟩ : ∃ n : Nat, n = i.toNat := ⟨_, rfl⟩
    obtain rfl : i = (n : Int) := by omega
    have hql : ((sec d n).p.getD zeros).length = 64 := by
      cases e : (sec d n).p with
      | none => rfl
      | some q => exact hok.p _ hm q e
    obtain ⟨q, hq⟩ : ∃ q, q = (sec d n).p.getD zeros := ⟨_, rfl⟩
    rw [← hq] at hlk hql
    have hql' : (q.map byv).length = 64 := by simp [hql]
    simp only [if_true] at hlk
    have HQ := Lib.hid hq; clear hq
    clear hn hse
    go_wp2_with (first | (go_at_call 43; refine (check_any f d n w h).mono ?_; rintro e w' ⟨rfl, rfl⟩; rw [hc]) | (refine wpList_store_blk (ty := 86) (n := 64) (vs := q.map byv) (Blk.new _ _ 86) rfl rfl rfl rfl rfl (by kernel_rfl) hql' (by simp [zero64, zeros]) (bytes_oneCell _) ?_))
    intro w1 hb1 ho1
    have hb1' : Blk w1 w'.heap.size (q.map byv) 86 := by
      have e : List.drop 64 zero64 = [] := rfl
      simpa [e] using hb1
    clear hb1
    have hw1 : Below w'.heap.size w' w1 := ho1.below ((Below.refl _ _).alloc (Nat.le_refl _) _) (Nat.le_refl _)
    clear ho1
    have hcv1 := convB w1 (.slice (some ⟨w'.heap.size, 0, none⟩) 64 64) q (by rw [hql]; exact ⟨by simp [hql], .inr ⟨_, 0, 64, rfl, Nat.le_refl _, by decide, hb1'.cells0, hb1'.lt⟩⟩)
    have h' := h.below hw1
    have c0' : w1.cell? ⟨f.p, 0, none⟩ = some (.slice (some ⟨f.bb, 0, none⟩) d.s.length f.cap) := (hB.below hw1 hB.lt).cell rfl
    have htl := hok.t _ hm
    have hcv2 := convB w1 (.slice (some ⟨f.bb, n * 64, none⟩) 64 64) (sec d n).t (by
      rw [htl]
      refine ⟨by simp [htl], .inr ⟨_, n * 64, 64, rfl, Nat.le_refl _, by decide, ?_, h'.blocks.lt⟩⟩
      refine h'.blocks.cells _ _ ?_
      rw [List.length_map, htl, flatS_at hok.t (by omega)]
      rfl)
    have hil' : n < d.s.length := by omega
    clear hil
    cases hp : (sec d n).p with
    | some r =>
      rw [hp] at hk HQ
      obtain rfl : q = r := HQ.out
      simp only [Option.isSome_some]
      go_wp2
      go_ret2
      rw [hk]
      exact ⟨rfl, hw1⟩
    | none =>
      rw [hp] at hk
      simp only [Option.isSome_none]
      go_wp2
      go_ret2
      rw [hk]
      exact ⟨rfl, hw1⟩
  · have hk : aread d i = ([], acheck d i) := by simp [aread, hc]
    go_wp2_with (go_at_call 43; refine (check_any f d i w h).mono ?_; rintro e w' ⟨rfl, rfl⟩)
    go_ret2
    refine ⟨?_, Below.refl _ _⟩
    rw [hk]; rfl
end Go.Proofs.YtbmnbdkbgpajeaaGreatDoor
end
/- Write of the program's disk. -/
section
namespace Go.Proofs.YtbmnbdkbgpajeaaGreatDoor
open Go.RowKit Go.Own Go.Disk Go.BigFrame
attribute [local go_sem] setCell_twice str_size
theorem sl_cases {w : World} {n : Nat} {sa : Option Addr} {cap : Nat} {vs : List Value} (h : Sl w 1 (.slice sa n cap) n vs) (hn : 0 < n) : ∃ b off, sa = some ⟨b, off, none⟩ ∧ n ≤ cap ∧ cap ≤ maxLen ∧ Cells w b off vs ∧ b < w.heap.size := by
  obtain ⟨_, ⟨_, h0⟩ | ⟨b, off, cap', hv, hc1, hc2, hC, hlt⟩⟩ := h
  · omega
  · injection hv with e1 e2 e3
    subst e3
    exact ⟨b, off, e1, hc1, hc2, hC, hlt⟩
theorem sl_pos {w : World} {v : Value} {b : List UInt8} (h : Sl w 1 v b.length (b.map byv)) (hb : b.length = 64) : ∃ g off cap, v = .slice (some ⟨g, off, none⟩) 64 cap ∧ 64 ≤ cap := by
  obtain ⟨_, ⟨_, h0⟩ | ⟨g, off, cap, hv, hc1, _⟩⟩ := h
  · omega
  · exact ⟨g, off, cap, by rw [hv, hb], by omega⟩
theorem inR_upd (d : DS) (i k : Int) (g : Sec → Sec) : inR (upd d i g) k = inR d k := by simp [inR, upd]
theorem sec_upd (d : DS) {i k : Int} (g : Sec → Sec) (hi : inR d i = true) (hk : inR d k = true) : sec (upd d i g) k = if k = i then g (sec d i) else sec d k := by
  obtain ⟨_, h1, h2, _⟩ := sec_mem hi
  obtain ⟨_, h3, h4, _⟩ := sec_mem hk
  unfold sec upd
  simp only [List.getD_eq_getElem?_getD, List.getElem?_modify]
  by_cases e : k = i
  · subst e
    simp [List.getElem?_eq_getElem h1]
  · have : i.toNat ≠ k.toNat := by omega
    simp [this, e]
theorem PD.write {w w' : World} {f : Ft} {d : DS} (h : PD w f d) {i : Int} (hi : inR d i = true) {b : List UInt8} (hb : b.length = 64) {m : List (Int × Value)} (hg : ∀ k, mget m k = if inR d k then (sec d k).p.map bval else none)
    (hm : IMap w' f.pb (mset m i (bval b))) (hc : Chg [f.pb] w w') : PD w' f (upd d i fun x => { x with p := some b }) := by
  obtain ⟨hft, ⟨l, h1, h2⟩, h3, _, ⟨m', h6, h7⟩, h8, h9⟩ := h
  refine ⟨by simpa [upd] using hft, ⟨l, ?_, h2⟩, ?_, ⟨_, hm, fun k => ?_⟩, ⟨m', h6.chg hc (by simp; exact Ne.symm h9.2.2.2.2.2), fun k => ?_⟩, h8.upd _ _ fun x hx hp => ⟨hx, fun q hq => by simp at hq; rw [← hq]; exact hb⟩, h9⟩
  · have e : (upd d i fun x => { x with p := some b }).s.length = d.s.length := by simp [upd]
    rw [e]; exact h1.chg hc (by simp; exact h9.2.1)
  · have e : flatS (upd d i fun x => { x with p := some b }).s f.sp = flatS d.s f.sp := by
      obtain ⟨_, h1, _, _⟩ := sec_mem hi
      unfold flatS flat upd
      congr 1
      rw [List.flatMap_def, List.flatMap_def]
      congr 1
      apply List.ext_getElem?
      intro j
      simp only [List.getElem?_map, List.getElem?_modify]
      cases d.s[j]? with
      | none => rfl
      | some x => by_cases e : i.toNat = j <;> simp [e]
    rw [e]; exact h3.chg hc (by simp; exact h9.2.2.2.1)
  · rw [mget_mset, inR_upd]
    by_cases e : k = i
    · subst e; rw [if_pos rfl, if_pos hi, sec_upd d _ hi hi, if_pos rfl]; rfl
    · rw [if_neg e, hg]
      by_cases hk : inR d k = true
      · rw [if_pos hk, if_pos hk, sec_upd d _ hi hk, if_neg e]
      · rw [if_neg hk, if_neg hk]
  · rw [h7, inR_upd]
    by_cases hk : inR d k = true
    · rw [sec_upd d _ hi hk]
      by_cases e : k = i
      · subst e; rw [if_pos rfl]
      · rw [if_neg e]
    · simp [hk]
theorem acheck_ok {d : DS} {i : Int} (hc : acheck d i = 0) : inR d i = true ∧ d.off = false := by
  unfold acheck at hc
  split at hc
  · cases hc
  · rename_i h
    split at hc
    · exact ⟨by assumption, by simpa using h⟩
    · cases hc
theorem arrayAt_exec {o : Oper} {ρ : Operand → Value} {x : Operand} {g off cap : Nat} (ho : o.op = .sliceToArrayPointer 86 x) (hx : ρ x = .slice (some ⟨g, off, none⟩) 64 cap) (w : World) :
    (execOp ρ o).run Tryz.prog w = .ok (.value (.pointer (some ⟨g, off, none⟩))) w := by
  unfold execOp
  simp [ho, hx, Instr.arrayAt, run_underlying hTblk, Result.andThen]
set_option maxHeartbeats 800000 in
set_option maxRecDepth 100000 in
theorem write_any (f : Ft) (d : DS) (i : Int) (b : List UInt8) (w : World) (h : PD w f d) : Calls Tryz.prog 10 #[.pointer (some ⟨f.p, 0, none⟩), .int .i64 i, str b] w fun e w' => e = .returned (.int .i64 (awrite d i b).1) ∧ PD w' f (awrite d i b).2 ∧ Chg f.all w w' := by
  obtain ⟨l, hB, _⟩ := h.head
  go_enter Tryz.func10, Tryz.ntmps10
  by_cases hc : acheck d i = 0
  · obtain ⟨hi, _⟩ := acheck_ok hc
    by_cases hbl : b.length = 64
    · by_cases hs : (astep d).1 = 0
      · have hk : awrite d i b = (0, upd (astep d).2 i fun x => { x with p := some b }) := by simp [awrite, hc, hbl, hs]
        have hbl' : (b.map byv).length = 64 := by simp [hbl]
        obtain ⟨d1, hd1⟩ : ∃ d1, d1 = (astep d).2 := ⟨_, rfl⟩
        have hi1 : inR d1 i = true := by rw [hd1]; unfold inR at hi ⊢; rw [astep_s]; exact hi
        rw [← hd1] at hk
        go_wp2_with (first | (go_at_call 43; refine (check_any f d i w h).mono ?_; rintro e w' ⟨rfl, rfl⟩; rw [hc]) | (go_at_call 44; refine (step_any f d _ h).mono ?_; rintro e w1 ⟨rfl, h1, hc1⟩; rw [hs]; rw [← hd1] at h1))
        obtain ⟨l', hB', _⟩ := h1.head
        obtain ⟨m, hmm, hmg⟩ := h1.pend
        have hz' := hc1.size
        refine wp_region_sqB 9 [3, 6, 7, 8] (fun i v W => match i with
          | 3 => v = .map (some f.pb)
          | 6 => Sl W 1 v b.length (b.map byv)
          | 7 => ∃ g off, v = .pointer (some ⟨g, off, none⟩) ∧ Cells W g off (b.map byv) ∧ g < W.heap.size
          | 8 => v = bval b
          | _ => True) (by kernel_rfl) (by kernel_rfl) ?stable ?main
        case stable =>
          intro i v W W' h hb
          match i, h with
          | 0, h => exact h
          | 1, h => exact h
          | 2, h => exact h
          | 3, h => exact h
          | 4, h => exact h
          | 5, h => exact h
          | 6, h => exact Sl.below h hb
          | 7, h => exact (by obtain ⟨g, off, h1, h2, h3⟩ := h; exact ⟨g, off, h1, h2.below (ExtB.below hb) h3, Nat.lt_of_lt_of_le h3 (ExtB.below hb).size⟩)
          | 8, h => exact h
          | _ + 9, _ => exact trivial
        case main =>
          simp only [List.take_succ_cons, List.take_zero, List.drop_succ_cons, List.drop_zero]
          repeat (refine sqw_quiet rfl rfl (ExtB.refl _) ?_; go_big_quiet_step (fail); refine wpQuiet_nil ?_)
          refine sqw_postY rfl rfl rfl ?_ ?_
          · intro W1 hb hf
            have cx : W1.cell? ⟨f.p, 1, none⟩ = some (.map (some f.pb)) := (hB'.below (ExtB.undrew hb) hB'.lt).cell rfl
            refine yields_value (v := .map (some f.pb)) (w' := W1) ?_ ⟨rfl, ExtB.refl _⟩
            go_simp
          intro v Wj hv
          obtain rfl : v = .map (some f.pb) := hv
          simp only [Act.put, List.setIfInBounds_toArray, List.set_cons_zero, List.set_cons_succ]
          repeat (refine sqw_quiet rfl rfl (ExtB.refl _) ?_; go_big_quiet_step (fail); refine wpQuiet_nil ?_)
          refine sqw_postY rfl rfl rfl ?_ ?_
          · intro W1 hb hf
            exact yields_str_bytes (bs := b) rfl rfl hTs hTb hT8 (by omega) fun v w' h1 h2 _ => ⟨h1, h2⟩
          intro v Wj hv
          obtain ⟨g, off, cap, rfl, hcap⟩ : ∃ g off cap, v = .slice (some ⟨g, off, none⟩) 64 cap ∧ 64 ≤ cap := sl_pos hv hbl
          clear hv
          simp only [Act.put, List.setIfInBounds_toArray, List.set_cons_zero, List.set_cons_succ]
          repeat (refine sqw_quiet rfl rfl (ExtB.refl _) ?_; go_big_quiet_step (fail); refine wpQuiet_nil ?_)
          refine sqw_postY rfl rfl rfl ?_ ?_
          · intro W1 hb hf
            have p6 : Sl W1 1 (.slice (some ⟨g, off, none⟩) 64 cap) b.length (b.map byv) := hf 6 29 (by kernel_rfl) rfl rfl (fun o h => by obtain rfl := Option.some.inj h; rfl)
            rw [hbl] at p6
            obtain ⟨g', off', e, _, _, hC, hlt⟩ := sl_cases p6 (by decide)
            injection e with e
            injection e with e1 e2
            subst e1 e2
            refine yields_value (v := .pointer (some ⟨g, off, none⟩)) (w' := W1) ?_ ⟨⟨g, off, rfl, hC, hlt⟩, ExtB.refl _⟩
            exact arrayAt_exec rfl rfl W1
          intro v Wj hv
          obtain ⟨g1, off1, rfl, _⟩ := hv
          simp only [Act.put, List.setIfInBounds_toArray, List.set_cons_zero, List.set_cons_succ]
          repeat (refine sqw_quiet rfl rfl (ExtB.refl _) ?_; go_big_quiet_step (fail); refine wpQuiet_nil ?_)
          refine sqw_postY rfl rfl rfl ?_ ?_
          · intro W1 hb hf
            have p7 : ∃ g off, Value.pointer (some ⟨g1, off1, none⟩) = .pointer (some ⟨g, off, none⟩) ∧ Cells W1 g off (b.map byv) ∧ g < W1.heap.size := hf 7 30 (by kernel_rfl) rfl rfl (fun o h => by obtain rfl := Option.some.inj h; rfl)
            obtain ⟨g', off', e, hC, _⟩ := p7
            injection e with e
            injection e with e
            injection e with e1 e2
            subst e1 e2
            exact yields_load rfl hC rfl hTblk rfl (by kernel_rfl) hbl' ⟨rfl, ExtB.refl _⟩
          intro v Wj hv
          obtain rfl : v = bval b := hv
          simp only [Act.put, List.setIfInBounds_toArray, List.set_cons_zero, List.set_cons_succ]
          repeat (refine sqw_quiet rfl rfl (ExtB.refl _) ?_; go_big_quiet_step (fail); refine wpQuiet_nil ?_)
          intro w7 hb _
          have hb7 := ExtB.undrew hb
          go_wp2_with (refine wpList_mapUpdate_imap (k := i) (v := bval b) (hmm.below hb7) rfl rfl rfl rfl rfl rfl hTp hKp ?_)
          intro w8 hm8 hc8 _
          have hP := (h1.below hb7).write hi1 hbl hmg hm8 hc8
          go_wp2
          go_ret
          rw [hk]
          refine ⟨rfl, hP, ?_⟩
          exact ((hc1.mono (by simp [Ft.all])).trans (.of_below hb7)).trans (hc8.mono (by simp [Ft.all]))
      · have hk : awrite d i b = astep d := by simp [awrite, hc, hbl, hs]
        have hs' : ((astep d).1 == 0) = false := by simpa using hs
        go_wp2_with (first | (go_at_call 43; refine (check_any f d i w h).mono ?_; rintro e w' ⟨rfl, rfl⟩; rw [hc]) | (go_at_call 44; refine (step_any f d _ h).mono ?_; rintro e w1 ⟨rfl, h1, hc1⟩))
        go_ret
        rw [hk]
        exact ⟨rfl, h1, hc1.mono (by simp [Ft.all])⟩
    · have hk : awrite d i b = (1, d) := by simp [awrite, hc, hbl]
      go_wp2_with (go_at_call 43; refine (check_any f d i w h).mono ?_; rintro e w' ⟨rfl, rfl⟩; rw [hc])
      go_ret
      rw [hk]
      exact ⟨rfl, h, Chg.refl _ _⟩
  · have hk : awrite d i b = (acheck d i, d) := by simp [awrite, hc]
    go_wp2_with (go_at_call 43; refine (check_any f d i w h).mono ?_; rintro e w' ⟨rfl, rfl⟩)
    go_ret
    rw [hk]
    exact ⟨rfl, h, Chg.refl _ _⟩
end Go.Proofs.YtbmnbdkbgpajeaaGreatDoor
end
