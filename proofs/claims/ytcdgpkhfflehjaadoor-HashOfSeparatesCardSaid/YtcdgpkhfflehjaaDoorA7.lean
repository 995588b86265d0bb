/- The walk over the reference's padded. -/
import Derived.Test.YtcdgpkhfflehjaaDoorA6
namespace Go.Proofs.YtcdgpkhfflehjaaDoor
open Go.RowKit Go.Sha Go.Own
attribute [local go_sem high] op_add op_xor op_and op_or op_not op_shl op_shr op_shl_lit op_shr_lit byte_mod op_str_eql op_str_neq
attribute [local go_sem] setCell_twice str_size
/-- A row of bytes that the call owns; nothing before has turned. -/
structure BRel (w : World) (v : Value) (bs : List UInt8) (wr : World) : Prop where
  own : wr.ownsRow w.heap.size 5 1 v bs.length (bs.map byv)
  below : Below w.heap.size w wr
theorem BRel.append {w wr w' : World} {v v' : Value} {bs news : List UInt8} (h : BRel w v bs wr) (o : Obj) (hown : w'.ownsRow w.heap.size 5 1 v' (bs.length + news.length) (bs.map byv ++ news.map byv))
    (hg : (wr.alloc o).grownBy w' v.ownBlock) : BRel w v' (bs ++ news) w' := by
  refine ⟨by simpa using hown, ?_⟩
  have hb : Below w.heap.size wr (wr.alloc o) := (Below.refl _ _).alloc h.below.size o
  exact h.below.trans (grown_below hb (h.own.alloc o) hg (by simp; have := h.below.size; omega))
theorem BRel.append0 {w wr w' : World} {v v' : Value} {bs news : List UInt8} (h : BRel w v bs wr) (hown : w'.ownsRow w.heap.size 5 1 v' (bs.length + news.length) (bs.map byv ++ news.map byv))
    (hg : wr.grownBy w' v.ownBlock) : BRel w v' (bs ++ news) w' :=
  ⟨by simpa using hown, h.below.trans (grown_below (Below.refl _ _) h.own hg h.below.size)⟩
set_option maxHeartbeats 1600000 in
set_option maxRecDepth 100000 in
theorem padded_any (m : List UInt8) (sa : Option Addr) (cap : Nat) (w : World) (hsl : Sl w 1 (.slice sa m.length cap) m.length (m.map byv)) (hlen : m.length ≤ 549755813888) :
    Calls Tryd.prog 27 #[.slice sa m.length cap] w fun e w' => ∃ v', e = .returned v' ∧ BRel w v' (m ++ tailF m.length) w' := by
  have HSL := Lib.hid hsl; clear hsl
  go_enter Tryd.func27, Tryd.ntmps27
  have H0 : BRel w (.slice (some ⟨w.heap.size, 0, none⟩) 0 0) [] (w.alloc (.cells #[] 5)) := ⟨own_new _ _ _ 0 _ rfl (by decide) (Nat.le_refl _), (Below.refl _ _).alloc (Nat.le_refl _) _⟩
  go_wp2_with (refine wpList_append_sl rfl _ _ 22 rfl w.heap.size 5 (.int .u8 0) 1 1 Tryd.underlying22 info5 rfl (by decide) _ 0 _ rfl H0.own _ m.length _ rfl (HSL.out.alloc _) (bytes_oneCell _) (by unfold maxLen; omega) (by omega) (by simp) ?_)
  intro v1 w1 hown1 hg1
  have H1 : BRel w v1 m w1 := by simpa using H0.append0 (news := m) (by simpa using hown1) hg1
  clear H0 hown1 hg1
  have hz1 := H1.below.size
  have hn : Hid (1 = [(128 : UInt8)].length) := rfl
  go_wp2_with (refine wpList_append_sl rfl _ _ 22 rfl w.heap.size 5 (.int .u8 0) 1 1 Tryd.underlying22 info5 rfl (by decide) _ m.length _ rfl (H1.own.alloc _) _ 1 [byv 128] rfl (sl_new _ _ _ 1 rfl (by decide)) (by simp [Value.oneCell']) (by unfold maxLen; omega) (by omega) (by simp; omega) ?_)
  intro v2 w2 hown2 hg2
  have H2 : BRel w v2 (m ++ 128 :: List.replicate 0 0) w2 := H1.append (news := [128]) _ (by simpa using hown2) hg2
  clear H1 hown2 hg2 hz1
  go_wp2
  go_loopw [3] (fun v wr => ∃ j, Hid (∀ i, i < j → (m.length + (1 + i)) % 64 ≠ 56) ∧ j ≤ 64 ∧ BRel w v (m ++ 128 :: List.replicate j 0) wr) (fun v _ => m.length + 66 - sLen v)
  case atStart => exact ⟨0, fun i h => absurd h (by omega), by omega, H2⟩
  case round =>
    clear H2
    obtain ⟨j, Hj, hj, hp⟩ := hrel
    have hz := hp.below.size
    have hlenv : (m ++ 128 :: List.replicate j (0 : UInt8)).length = m.length + (j + 1) := by simp
    have how := hp.own
    rw [hlenv] at how
    by_cases hc : (m.length + (1 + j)) % 64 = 56
    · obtain ⟨hv1, ⟨hv2, hv3⟩ | ⟨g, cap1, cur, hv2, hv⟩⟩ := id how
      · omega
      have HV := Lib.hid hv; clear hv
      have HV1 := Lib.hid hv1; clear hv1
      have hcond : (((m.length : Int) + ((j : Int) + 1)) % 64 != 56) = false := by simp; omega
      have hjz := Lib.hid (zeros_least m.length j hc Hj.out)
      have HCN := Lib.hid hc; clear hc
      subst hv2
      go_wp2
      go_loopw [5, 3] (fun c v wx => ∃ i : Nat, i ≤ 8 ∧ c = .int .i64 i ∧ BRel w v (m ++ 128 :: List.replicate j 0 ++ (be64 (8 * m.length)).take i) wx) (fun c _ _ => 8 - (intOf c).toNat)
      case atStart => exact ⟨0, by omega, rfl, by simpa using hp⟩
      case round =>
        clear hp how HV HV1 hz
        obtain ⟨i, hi, rfl, hp⟩ := hrel
        have hz := hp.below.size
        have hlenv : (m ++ 128 :: List.replicate j (0 : UInt8) ++ (be64 (8 * m.length)).take i).length = m.length + (j + 1) + i := by simp [be64]; omega
        have how := hp.own
        rw [hlenv] at how
        by_cases hi8 : i < 8
        · obtain ⟨q, Hq⟩ : ∃ q, Hid (q = 56 - 8 * i) := ⟨_, rfl⟩
          have hq : 56 - 8 * (i : Int) = (q : Int) := by have := Hq.out; omega
          have hq2 : q ≤ 64 := by have := Hq.out; omega
          go_wp2_with (refine wpList_append_sl rfl _ _ 22 rfl w.heap.size 5 (.int .u8 0) 1 1 Tryd.underlying22 info5 rfl (by decide) _ (m.length + (j + 1) + i) _ rfl (how.alloc _) _ 1 [.int .u8 (8 * (m.length : Int) / 2 ^ q % 256)] rfl (sl_new _ _ _ 1 rfl (by decide)) (by simp [Value.oneCell']) (by unfold maxLen; omega) (by omega) (by simp; omega) ?_)
          intro v' w' hown' hg
          go_wp2
          go_roundw
          case rel =>
            refine ⟨i + 1, by omega, by go_num, ?_⟩
            have e : (be64 (8 * m.length)).take (i + 1) = (be64 (8 * m.length)).take i ++ [UInt8.ofNat (8 * m.length / 2 ^ q)] := by
              have hb8 : i < (be64 (8 * m.length)).length := by simp [be64, hi8]
              rw [List.take_succ_eq_append_getElem hb8]
              simp [be64, Hq.out]
            have e2 : byv (UInt8.ofNat (8 * m.length / 2 ^ q)) = .int .u8 (8 * (m.length : Int) / 2 ^ q % 256) := by
              unfold byv; rw [byte_of]; simp
            rw [e, ← List.append_assoc]
            refine hp.append _ ?_ hg
            rw [hlenv]
            simpa [e2] using hown'
          case measure => simp [intOf]; omega
        · obtain rfl : i = 8 := by omega
          have hbs : (m ++ 128 :: List.replicate j (0 : UInt8) ++ (be64 (8 * m.length)).take 8) = m ++ tailF m.length := by
            rw [tailF, hjz.out, List.take_of_length_le (by simp [be64])]; simp
          rw [hbs] at hp
          clear how hlenv hbs
          go_wp2
          go_ret
          exact ⟨_, rfl, hp⟩
    · obtain ⟨hv1, ⟨hv2, hv3⟩ | ⟨g, cap1, cur, hv2, hv⟩⟩ := id how
      · omega
      have HV := Lib.hid hv; clear hv
      have HV1 := Lib.hid hv1; clear hv1
      have hcond : (((m.length : Int) + ((j : Int) + 1)) % 64 != 56) = true := by simp; omega
      have hjl : j < 64 := by
        rcases Nat.lt_or_ge j 64 with h | h
        · exact h
        · exact absurd (zeros_spec m.length) (Hj.out _ (by unfold zeros; omega))
      have HCN := Lib.hid hc; clear hc
      subst hv2
      go_wp2_with (refine wpList_append_sl rfl _ _ 22 rfl w.heap.size 5 (.int .u8 0) 1 1 Tryd.underlying22 info5 rfl (by decide) _ (m.length + (j + 1)) _ rfl (how.alloc _) _ 1 [byv 0] rfl (sl_new _ _ _ 1 rfl (by decide)) (by simp [Value.oneCell']) (by unfold maxLen; omega) (by omega) (by simp; omega) ?_)
      intro v' w' hown' hg
      go_wp2
      go_roundw
      case rel =>
        refine ⟨j + 1, fun i hi => ?_, by omega, ?_⟩
        · rcases Nat.lt_or_ge i j with h | h
          · exact Hj.out i h
          · obtain rfl : i = j := by omega
            exact HCN.out
        · have e : (m ++ 128 :: List.replicate (j + 1) (0 : UInt8)) = (m ++ 128 :: List.replicate j 0) ++ [0] := by rw [List.replicate_succ']; simp
          rw [e]
          exact hp.append _ (by rw [hlenv]; simpa using hown') hg
      case measure =>
        rw [own_len hown']; simp [sLen]; omega
end Go.Proofs.YtcdgpkhfflehjaaDoor
