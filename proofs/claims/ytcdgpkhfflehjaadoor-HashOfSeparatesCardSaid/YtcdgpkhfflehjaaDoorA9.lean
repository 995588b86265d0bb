/- The walk over hash.Sum. -/
import Derived.Test.YtcdgpkhfflehjaaDoorA8
namespace Go.Proofs.YtcdgpkhfflehjaaDoor
open Go.RowKit Go.Sha Go.Own
attribute [local go_sem high] op_add op_xor op_and op_or op_not op_shl op_shr op_shl_lit op_shr_lit byte_mod op_str_eql op_str_neq
attribute [local go_sem] setCell_twice str_size
set_option maxHeartbeats 1600000 in
theorem hsum_any (m : List UInt8) (sa : Option Addr) (cap : Nat) (w : World) (hsl : Sl w 1 (.slice sa m.length cap) m.length (m.map byv)) (hlen : m.length ≤ 549755813888)
    (hK : Cells w 1 0 (Kt.map U)) (h1 : 1 < w.heap.size) :
    Calls Tryd.prog 11 #[.slice sa m.length cap] w fun e w' => e = .returned (.agg ((sha m).map byv).toArray) ∧ Below w.heap.size w w' := by
  have HSL := Lib.hid hsl; clear hsl
  have HK := Lib.hid hK; clear hK
  have hz24 := fun W => zeroValue24 W
  go_enter Tryd.func11, Tryd.ntmps11
  go_wp2
  refine wp_region_rg' 5 (fun i v _ => match i with
    | 0 => ∃ cs, v = .agg cs.toArray ∧ StreamOf [] cs
    | 1 => v = .slice sa m.length cap
    | 2 => v = str m
    | 3 => ∃ cs, v = .agg cs.toArray ∧ StreamOf m cs
    | 4 => v = .agg ((sha m).map byv).toArray
    | _ => True) (by kernel_rfl) (by kernel_rfl) (fun i v w w' h _ => h) ?hop ?hend
  case hop =>
    intro i hi
    match i, hi with
    | 0, _ =>
      intro o a1 w1 ho hb hf hp
      obtain rfl := Option.some.inj ho.symm
      refine owes_call (f := 14) (args := #[]) ?_ ?_
      · go_simp
      · refine (begin_any w1).mono ?_
        rintro e w' ⟨cs, rfl, h1, h2⟩
        exact ⟨_, rfl, ⟨cs, rfl, h1⟩, h2⟩
    | 1, _ =>
      intro o a1 w1 ho hb hf hp
      obtain rfl := Option.some.inj ho.symm
      have f0 := hf 0 rfl
      refine owes_value (v := a1.tmps.getD 0 undef) (w' := w1) ?_ ?_ (Below.refl _ _)
      · go_simp
      · rw [f0]; rfl
    | 2, _ =>
      intro o a1 w1 ho hb hf hp
      obtain rfl := Option.some.inj ho.symm
      have p1 : a1.tmps.getD 4 undef = .slice sa m.length cap := hp 1 4 (by kernel_rfl) rfl
      have hc := conv22 w1 (.slice sa m.length cap) m ((((HSL.out.alloc _)).drew).below (hb.mono (by simp)))
      refine owes_value (v := str m) (w' := w1) ?_ rfl (Below.refl _ _)
      simp only [Array.getD_eq_getD_getElem?] at p1
      go_simp
    | 3, _ =>
      intro o a1 w1 ho hb hf hp
      obtain rfl := Option.some.inj ho.symm
      obtain ⟨cs, p0, hs0⟩ := hp 0 3 (by kernel_rfl) rfl
      have p2 : a1.tmps.getD 5 undef = str m := hp 2 5 (by kernel_rfl) rfl
      refine owes_call (f := 15) (args := #[.agg cs.toArray, str m]) ?_ ?_
      · simp only [Array.getD_eq_getD_getElem?] at p0 p2
        go_simp
      · refine (add_any [] m cs hs0 (by simp; omega) w1 (((HK.out.alloc _).drew).below hb (by simp; omega)) (by have := hb.size; simp at this; omega)).mono ?_
        rintro e w' ⟨cs', rfl, h1, h2⟩
        exact ⟨_, rfl, ⟨cs', rfl, h1⟩, h2⟩
    | 4, _ =>
      intro o a1 w1 ho hb hf hp
      obtain rfl := Option.some.inj ho.symm
      obtain ⟨cs, p3, hs3⟩ := hp 3 6 (by kernel_rfl) rfl
      refine owes_call (f := 17) (args := #[.agg cs.toArray]) ?_ ?_
      · simp only [Array.getD_eq_getD_getElem?] at p3
        go_simp
      · refine (ssum_any m cs hs3 hlen w1 (((HK.out.alloc _).drew).below hb (by simp; omega)) (by have := hb.size; simp at this; omega)).mono ?_
        rintro e w' ⟨rfl, h2⟩
        exact ⟨_, rfl, rfl, h2⟩
  case hend =>
    intro vs w2 hb hp
    have p4 : vs 4 = .agg ((sha m).map byv).toArray := hp 4 (by omega)
    simp only [putAll, List.drop_succ_cons, List.drop_zero, p4, List.getElem?_cons_zero, List.getElem?_cons_succ, Option.bind_some, Act.put, List.setIfInBounds_toArray, List.set_cons_zero, List.set_cons_succ]
    clear hp p4
    have hB : Blk w2 w.heap.size zero24 24 := ((Blk.new w _ 24).drew).below hb (by simp)
    have hl6 : ((sha m).map byv).length = 32 := by simp [sha_length]
    go_wp2_with (refine wpList_store_blk (ty := 24) (n := 32) (vs := (sha m).map byv) hB rfl rfl rfl rfl rfl (by kernel_rfl) hl6 (by simp [zero24]) (bytes_oneCell _) ?_)
    intro w9 hb9 ho9
    have hd9 : List.drop 32 zero24 = [] := by rfl
    have hb9' : Blk w9 w.heap.size ((sha m).map byv) 24 := by simpa [hd9] using hb9
    clear hb9 hd9
    go_wp2
    refine bodyPost_ret (results_blk rfl hb9' rfl Tryd.underlying24 rfl ?_) rfl ⟨rfl, ho9.below (((Below.refl _ _).alloc (Nat.le_refl _) _).drew.trans (hb.mono (by simp))) (Nat.le_refl _)⟩
    rw [hl6]; kernel_rfl
end Go.Proofs.YtcdgpkhfflehjaaDoor
