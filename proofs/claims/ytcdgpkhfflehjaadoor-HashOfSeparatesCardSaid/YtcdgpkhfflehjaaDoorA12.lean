/- The walks over Mac's closure and Mac. -/
import Derived.Test.YtcdgpkhfflehjaaDoorA11
namespace Go.Proofs.YtcdgpkhfflehjaaDoor
open Go.RowKit Go.Sha Go.Own
attribute [local go_sem high] op_add op_xor op_and op_or op_not op_shl op_shr op_shl_lit op_shr_lit byte_mod op_str_eql op_str_neq
attribute [local go_sem] setCell_twice str_size
def pad64 (k : List UInt8) : List UInt8 := k ++ List.replicate (64 - k.length) 0
def xorB (b : UInt8) (l : List UInt8) : List UInt8 := l.map (· ^^^ b)
theorem _root_.Go.Own.Blk.eq {w : World} {g : Nat} {l l' : List Value} {t : TypeId} (h : Blk w g l t) (e : l = l') : Blk w g l' t := e ▸ h
theorem xset (b x : UInt8) (P : List UInt8) (i : Nat) (hi : i < P.length) (hx : x = P.getD i 0) : ((xorB b (P.take i) ++ P.drop i).map byv).set i (byv (x ^^^ b)) = (xorB b (P.take (i + 1)) ++ P.drop (i + 1)).map byv := by
  have hl : (xorB b (P.take i)).length = i := by simp [xorB]; omega
  rw [← List.map_set, List.set_append_right _ _ (by omega), hl, Nat.sub_self, List.drop_eq_getElem_cons hi, List.set_cons_zero, List.take_succ_eq_append_getElem hi, hx, show P.getD i 0 = P[i] by simp [hi]]
  congr 1
  simp only [xorB, List.map_append, List.append_assoc, List.map_cons, List.map_nil, List.cons_append, List.nil_append]
theorem mac1_any (k : List UInt8) (hk : k.length ≤ 64) (b : UInt8) (g : Nat) (w : World) (hB : Blk w g [str k] 9) (hg : g < w.heap.size) :
    Calls Tryd.prog 31 #[byv b, .pointer (some ⟨g, 0, none⟩)] w fun e w' => e = .returned (str (xorB b (pad64 k))) ∧ Below w.heap.size w w' := by
  have cg : w.cell? ⟨g, 0, none⟩ = some (str k) := hB.cell rfl
  go_enter Tryd.func31, Tryd.ntmps31
  go_wp2
  refine wp_region_tail 2 (by kernel_rfl) (by kernel_rfl) ?_
  simp only [List.take_succ_cons, List.take_zero, List.drop_succ_cons, List.drop_zero]
  repeat (go_big_quiet_step (fail))
  refine wpQuiet_nil ?_
  intro nq
  go_wp2_with (refine wpList_copy_str (bs := k) (((Blk.new w _ 31)).drewN nq) rfl rfl rfl rfl Tryd.underlying22 (by kernel_rfl) k.length ?hk ?hfit ?_)
  case hk => omega
  intro w1 hb1 ho1
  have hb1' : Blk w1 w.heap.size ((pad64 k).map byv) 31 := by
    refine hb1.eq ?_
    have e : (List.replicate 64 (byv 0)).drop k.length = (List.replicate (64 - k.length) (0 : UInt8)).map byv := by rw [List.drop_replicate, List.map_replicate]
    rw [pad64, List.map_append, ← e]
    rfl
  clear hb1
  have hbw : Below w.heap.size w w1 := ho1.below (below_drewN ((Below.refl _ _).alloc (Nat.le_refl _) _) nq) (Nat.le_refl _)
  clear ho1
  have hPl : (pad64 k).length = 64 := by simp [pad64]; omega
  obtain ⟨P, HP⟩ : ∃ P, Hid (P = pad64 k) := ⟨_, rfl⟩
  rw [← HP.out] at hb1' hPl
  have HPl := Lib.hid hPl; clear hPl
  go_wp2
  go_loopw [9] (fun c wr => ∃ i : Nat, i ≤ 64 ∧ c = .int .i64 i ∧ Blk wr w.heap.size ((xorB b (P.take i) ++ P.drop i).map byv) 31 ∧ Below w.heap.size w wr) (fun c _ => 64 - (intOf c).toNat)
  case atStart => exact ⟨0, by omega, rfl, by simpa [xorB] using hb1', hbw⟩
  case round =>
    obtain ⟨i, hi, rfl, hB1, hb⟩ := hrel
    by_cases hi64 : i < 64
    · obtain ⟨x, Hx⟩ : ∃ x, Hid (x = P.getD i 0) := ⟨_, rfl⟩
      have cx : wr.cell? ⟨w.heap.size, i, none⟩ = some (byv x) := hB1.cell (by
        have := HPl.out
        rw [Hx.out, List.getElem?_map, List.getElem?_append_right (by simp [xorB]; omega)]; simp [xorB, show min i P.length = i by omega, show i < P.length by omega])
      have hf := hB1.frozen
      have hx := u8_xor_nat x.toNat b.toNat x.toNat_lt b.toNat_lt
      rw [← UInt8.toNat_xor] at hx
      go_wp2
      go_roundw
      case rel =>
        refine ⟨i + 1, by omega, by go_num, ?_, ?_⟩
        · have h := hB1.set i (byv (x ^^^ b))
          rw [xset b x P i (by have := HPl.out; omega) Hx.out] at h
          rw [byv, UInt8.toNat_xor] at h
          exact h
        · exact hb.setCell (Nat.le_refl _) _
      case measure => simp [intOf]; omega
    · obtain rfl : i = 64 := by omega
      have e : xorB b (P.take 64) ++ P.drop 64 = xorB b P := by rw [List.take_of_length_le (by have := HPl.out; omega), List.drop_of_length_le (by have := HPl.out; omega), List.append_nil]
      rw [e] at hB1
      have hxl : (xorB b P).length = 64 := by simp [xorB, HPl.out]
      have hcv := conv22 wr (.slice (some ⟨w.heap.size, 0, none⟩) 64 64) (xorB b P) (by rw [hxl]; exact ⟨by simp [hxl], .inr ⟨_, 0, 64, rfl, Nat.le_refl _, by decide, hB1.cells0, hB1.lt⟩⟩)
      go_wp2
      go_ret
      exact ⟨by rw [← HP.out]; rfl, hb⟩
end Go.Proofs.YtcdgpkhfflehjaaDoor
