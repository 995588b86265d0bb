/- Read and Image of the program's disk. -/
import Derived.Test.YtkffgmhaiodagaaD1
import Derived.WalkMore
namespace Go.Proofs.Ytkffgmhaiodagaa
open Go.RowKit Go.Own Go.Disk
attribute [local go_sem] setCell_twice str_size
theorem hTp : Try.prog.underlying 68 = some (.map 3 74) := by kernel_rfl
theorem hKp : Try.prog.underlying 3 = some (.int .i64) := by kernel_rfl
theorem hTw : Try.prog.underlying 69 = some (.map 3 4) := by kernel_rfl
theorem hTb : Try.prog.underlying 72 = some (.slice 5) := by kernel_rfl
theorem hT8 : Try.prog.underlying 5 = some (.int .u8) := by kernel_rfl
theorem hTs : Try.prog.underlying 9 = some .string := by kernel_rfl
theorem hTblk : Try.prog.underlying 74 = some (.array 64 5) := by kernel_rfl
def zero64 : List Value := zeros.map byv
theorem zeroBlk (w : World) : (zeroValue 74).run Try.prog w = .ok (.agg zero64.toArray) w := by kernel_rfl
theorem convB (w : World) (v : Value) (bs : List UInt8) (h : Sl w 1 v bs.length (bs.map byv)) : (convert 72 9 v).run Try.prog w = .ok (str bs) w :=
  run_bytes_str hTb hT8 hTs h
theorem lookP {w : World} {f : Ft} {d : DS} (h : PD w f d) {i : Int} (hi : inR d i = true) (ok : Bool) :
    (Instr.lookup 68 (.map (some f.pb)) (.int .i64 i) ok).run Try.prog w = .ok (if ok then .tuple #[bval ((sec d i).p.getD zeros), .bool (sec d i).p.isSome] else bval ((sec d i).p.getD zeros)) w := by
  obtain ⟨m, hm, hg⟩ := h.pend
  have := run_lookup_imap hTp hKp hm (zeroBlk w) i ok
  rw [this, hg i, hi]
  cases (sec d i).p <;> rfl
theorem read_any (f : Ft) (d : DS) (i : Int) (w : World) (h : PD w f d) : Calls Try.prog 16 #[.pointer (some ⟨f.p, 0, none⟩), .int .i64 i] w fun e w' => e = .returned (.tuple #[str (aread d i).1, .int .i64 (aread d i).2]) ∧ Below w.heap.size w w' := by
  obtain ⟨l, hB, _⟩ := h.head
  have c0 : w.cell? ⟨f.p, 0, none⟩ = some (.slice (some ⟨f.bb, 0, none⟩) d.s.length f.cap) := hB.cell rfl
  have c1 : w.cell? ⟨f.p, 1, none⟩ = some (.map (some f.pb)) := hB.cell rfl
  have hlt := h.lt
  have hz := fun W => zeroBlk W
  go_enter Try.func16, Try.ntmps16
  by_cases hc : acheck d i = 0
  · have hi : inR d i = true := by
      unfold acheck at hc
      split at hc
      · cases hc
      · split at hc
        · assumption
        · cases hc
    have hk : aread d i = ((sec d i).p.getD (sec d i).t, 0) := by simp [aread, hc]
    obtain ⟨hm, hil, hi0, hse⟩ := sec_mem hi
    have hlk := lookP h hi true
    have hok := h.ok
    obtain ⟨n, hn⟩ : ∃ n : Nat, n = i.toNat := ⟨_, rfl⟩
    obtain rfl : i = (n : Int) := by omega
    have hql : ((sec d n).p.getD zeros).length = 64 := by
      cases e : (sec d n).p with
      | none => rfl
      | some q => exact hok.p _ hm q e
    obtain ⟨q, hq⟩ : ∃ q, q = (sec d n).p.getD zeros := ⟨_, rfl⟩
    rw [← hq] at hlk hql
    have hql' : (q.map byv).length = 64 := by simp [hql]
    simp only [if_true] at hlk
    have HQ := Lib.hid hq; clear hq
    clear hn hse
    go_wp2_with (first | (go_at_call 46; refine (check_any f d n w h).mono ?_; rintro e w' ⟨rfl, rfl⟩; rw [hc]) | (refine wpList_store_blk (ty := 74) (n := 64) (vs := q.map byv) (Blk.new _ _ 74) rfl rfl rfl rfl rfl (by kernel_rfl) hql' (by simp [zero64, zeros]) (bytes_oneCell _) ?_))
    intro w1 hb1 ho1
    have hb1' : Blk w1 w'.heap.size (q.map byv) 74 := by
      have e : List.drop 64 zero64 = [] := rfl
      simpa [e] using hb1
    clear hb1
    have hw1 : Below w'.heap.size w' w1 := ho1.below ((Below.refl _ _).alloc (Nat.le_refl _) _) (Nat.le_refl _)
    clear ho1
    have hcv1 := convB w1 (.slice (some ⟨w'.heap.size, 0, none⟩) 64 64) q (by rw [hql]; exact ⟨by simp [hql], .inr ⟨_, 0, 64, rfl, Nat.le_refl _, by decide, hb1'.cells0, hb1'.lt⟩⟩)
    have h' := h.below hw1
    have c0' : w1.cell? ⟨f.p, 0, none⟩ = some (.slice (some ⟨f.bb, 0, none⟩) d.s.length f.cap) := (hB.below hw1 hB.lt).cell rfl
    have htl := hok.t _ hm
    have hcv2 := convB w1 (.slice (some ⟨f.bb, n * 64, none⟩) 64 64) (sec d n).t (by
      rw [htl]
      refine ⟨by simp [htl], .inr ⟨_, n * 64, 64, rfl, Nat.le_refl _, by decide, ?_, h'.blocks.lt⟩⟩
      refine h'.blocks.cells _ _ ?_
      rw [List.length_map, htl, flatS_at hok.t (by omega)]
      rfl)
    have hil' : n < d.s.length := by omega
    clear hil
    cases hp : (sec d n).p with
    | some r =>
      rw [hp] at hk HQ
      obtain rfl : q = r := HQ.out
      simp only [Option.isSome_some]
      go_wp2
      go_ret2
      rw [hk]
      exact ⟨rfl, hw1⟩
    | none =>
      rw [hp] at hk
      simp only [Option.isSome_none]
      go_wp2
      go_ret2
      rw [hk]
      exact ⟨rfl, hw1⟩
  · have hk : aread d i = ([], acheck d i) := by simp [aread, hc]
    go_wp2_with (go_at_call 46; refine (check_any f d i w h).mono ?_; rintro e w' ⟨rfl, rfl⟩)
    go_ret2
    refine ⟨?_, Below.refl _ _⟩
    rw [hk]; rfl
end Go.Proofs.Ytkffgmhaiodagaa
