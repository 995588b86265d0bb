/- The walk over Of. -/
import Derived.Test.YtcdgpkhfflehjaaDoorA13
import Derived.Laws.Cover3
namespace Go.Proofs.YtcdgpkhfflehjaaDoor
open Go.RowKit Go.Sha Go.Own
attribute [local go_sem high] op_add op_xor op_and op_or op_not op_shl op_shr op_shl_lit op_shr_lit byte_mod op_str_eql op_str_neq
attribute [local go_sem] setCell_twice str_size
def tagB (t : Int) : UInt8 := UInt8.ofNat (t % 256).toNat
theorem tagB_wrap (t : Int) : IntKind.u8.wrap t = ((tagB t).toNat : Int) := by
  rw [IntKind.wrap_u8, tagB]
  have h0 := Int.emod_nonneg t (show (256 : Int) ≠ 0 by decide)
  have h1 := Int.emod_lt_of_pos t (show (0 : Int) < 256 by decide)
  have e : (UInt8.ofNat (t % 256).toNat).toNat = (t % 256).toNat := by simp; omega
  rw [e]; omega
def inputF (t : Int) (ps : List (List UInt8)) : List UInt8 := tagB t :: ps.flatMap wireBytes
def ofF (t : Int) (ps : List (List UInt8)) : List UInt8 := (sha (inputF t ps)).take 16
theorem wireBytes_len (bs : List UInt8) : (wireBytes bs).length ≤ 3 + bs.length := by
  have := wireInt_len bs.length
  simp [wireBytes]; omega
theorem flat_len (ps : List (List UInt8)) (h : ∀ p ∈ ps, p.length < 65536) : (ps.flatMap wireBytes).length ≤ 65539 * ps.length := by
  induction ps with
  | nil => simp
  | cons p ps ih =>
    have h1 := wireBytes_len p
    have h2 := h p (by simp)
    have h3 := ih fun q hq => h q (by simp [hq])
    simp only [List.flatMap_cons, List.length_append, List.length_cons]
    omega
theorem owes_load {P : Program} {Q : Exit → Act → World → Prop} {o : Oper} {a : Act} {w : World} {v : Value} {R : Value → World → Prop} {ty : TypeId} {x : Operand} {ad : Addr} (ho : o.op = .load ty x) (hx : a.eval x = .pointer (some ad)) (hl : (loadVar ty ad).run P w = .ok v w) (hR : R v w) :
    o.wp P a w (fun a' w' => ∃ v, a' = a.put o.dst v ∧ R v w' ∧ Below w.heap.size w w') Q := by
  unfold Oper.wp execOp
  simp only [ho, hx, Instr.loadAt, Instr.sureAddr, Sem.run_bind, Sem.run_pure, Result.andThen_ok, hl]
  exact ⟨v, rfl, hR, Below.refl _ _⟩
theorem load34 {w : World} {g : Nat} {cs : List Value} (hB : Blk w g cs 34) (hl : cs.length = 73) : (loadVar 34 ⟨g, 0, none⟩).run Tryd.prog w = .ok (.agg cs.toArray) w :=
  run_loadVar_cells hB.cells0 Tryd.underlying34 rfl (by kernel_rfl) hl
set_option maxHeartbeats 800000 in
set_option maxRecDepth 100000 in
theorem of_any (t : Int) (ps : List (List UInt8)) (hp0 : ∀ p ∈ ps, p.length < 65536) (hn : ps.length ≤ 1000) (v : Value) (w : World) (hsl : Sl w 1 v ps.length (ps.map str)) (hK : Cells w 1 0 (Kt.map U)) (h1 : 1 < w.heap.size) :
    Calls Tryd.prog 21 #[.int .i64 t, v] w fun e w' => e = .returned (.agg ((ofF t ps).map byv).toArray) ∧ Below w.heap.size w w' := by
  have HK := Lib.hid hK; clear hK
  obtain ⟨sa, cap, rfl⟩ : ∃ sa cap, v = .slice sa ps.length cap := by
    obtain ⟨_, ⟨rfl, h⟩ | ⟨b, off, cap, rfl, _⟩⟩ := hsl
    · exact ⟨none, 0, by rw [h]⟩
    · exact ⟨_, _, rfl⟩
  have HSL := Lib.hid hsl; clear hsl
  have HP0 := Lib.hid hp0; clear hp0
  have hcK : ∀ W w7 : World, Below w.heap.size w W → Below W.heap.size W.drew w7 → Cells w7 1 0 (Kt.map U) ∧ 1 < w7.heap.size ∧ W.heap.size ≤ w7.heap.size ∧ Below W.heap.size W w7 := by
    intro W w7 h0 hb
    have h := (Below.refl W.heap.size W).drew.trans hb
    have hs := h.size
    have hs0 := h0.size
    exact ⟨HK.out.below (h0.trans (h.mono hs0)) h1, by omega, hs, h⟩
  have hz44 : ∀ W, (zeroValue 44).run Tryd.prog W = .ok (.agg (List.replicate 16 (byv 0)).toArray) W := fun W => by kernel_rfl
  have hwr := tagB_wrap t
  obtain ⟨b, Hb⟩ : ∃ b, Hid (b = tagB t) := ⟨_, rfl⟩
  rw [← Hb.out] at hwr
  go_enter Tryd.func21, Tryd.ntmps21
  go_wp2
  have hb0 : Below w.heap.size w (w.alloc (.cells (List.replicate 16 (byv 0)).toArray 44)) := (Below.refl _ _).alloc (Nat.le_refl _) _
  have hB0 : Blk (w.alloc (.cells (List.replicate 16 (byv 0)).toArray 44)) w.heap.size (List.replicate 16 (byv 0)) 44 := Blk.new _ _ _
  have hz0 : (w.alloc (.cells (List.replicate 16 (byv 0)).toArray 44)).heap.size = w.heap.size + 1 := by simp
  refine wp_region_rg' 7 (fun i v W => match i with
      | 0 => ∃ cs, v = .agg cs.toArray ∧ StreamOf [] cs
      | 1 => v = .int .i64 t
      | 2 => v = byv b
      | 3 => Sl W 1 v 1 [byv b]
      | 4 => v = str [b]
      | 5 => ∃ cs, v = .agg cs.toArray ∧ StreamOf [b] cs
      | 6 => ∃ g, v = .pointer (some ⟨g, 0, none⟩) ∧ Blk W g zero34 34 ∧ w.heap.size + 1 ≤ g
      | _ => True) (by kernel_rfl) (by kernel_rfl) ?stable ?hop ?hend
  case stable =>
    intro i v W W' h hb
    match i, h with
    | 3, h => exact Sl.below h hb
    | 6, ⟨g, h1, h2, h3⟩ => exact ⟨g, h1, h2.below hb h2.lt, h3⟩
    | 0, h => exact h
    | 1, h => exact h
    | 2, h => exact h
    | 4, h => exact h
    | 5, h => exact h
    | _ + 7, h => exact h
  case hop =>
      intro i hi
      match i, hi with
      | 0, _ =>
        intro o a1 w7 ho hb hf hp
        obtain rfl := Option.some.inj ho.symm
        refine owes_call (f := 14) (args := #[]) ?_ ?_
        · go_simp
        · refine (begin_any w7).mono ?_
          rintro e w8 ⟨cs, rfl, h1, h2⟩
          exact ⟨_, rfl, ⟨cs, rfl, h1⟩, h2⟩
      | 1, _ =>
        intro o a1 w7 ho hb hf hp
        obtain rfl := Option.some.inj ho.symm
        have f0 : a1.tmps.getD 0 undef = .int .i64 t := hf 0 (by kernel_rfl)
        simp only [Array.getD_eq_getD_getElem?] at f0
        refine owes_value (v := .int .i64 t) (w' := w7) ?_ rfl (Below.refl _ _)
        go_simp
      | 2, _ =>
        intro o a1 w7 ho hb hf hp
        obtain rfl := Option.some.inj ho.symm
        have p1 : a1.tmps.getD 10 undef = .int .i64 t := hp 1 10 (by kernel_rfl) rfl
        simp only [Array.getD_eq_getD_getElem?] at p1
        refine owes_value (v := byv b) (w' := w7) ?_ rfl (Below.refl _ _)
        go_simp
      | 3, _ =>
        intro o a1 w7 ho hb hf hp
        obtain rfl := Option.some.inj ho.symm
        have p2 : a1.tmps.getD 11 undef = byv b := hp 2 11 (by kernel_rfl) rfl
        simp only [Array.getD_eq_getD_getElem?] at p2
        refine owes_value (v := .slice (some ⟨w7.heap.size, 0, none⟩) 1 1) (w' := w7.alloc (.cells #[byv b] 5)) ?_ (sl_new _ _ _ 1 rfl (by decide)) ((Below.refl _ _).alloc (Nat.le_refl _) _)
        go_simp
      | 4, _ =>
        intro o a1 w7 ho hb hf hp
        obtain rfl := Option.some.inj ho.symm
        have p3 : Sl w7 1 (a1.tmps.getD 12 undef) 1 [byv b] := hp 3 12 (by kernel_rfl) rfl
        obtain ⟨x, hx⟩ : ∃ x, a1.tmps.getD 12 undef = x := ⟨_, rfl⟩
        rw [hx] at p3
        have hcv := conv22 w7 x [b] p3
        simp only [Array.getD_eq_getD_getElem?] at hx
        refine owes_value (v := str [b]) (w' := w7) ?_ rfl (Below.refl _ _)
        go_simp
      | 5, _ =>
        intro o a1 w7 ho hb hf hp
        obtain rfl := Option.some.inj ho.symm
        obtain ⟨cs, p0, hs0⟩ := hp 0 9 (by kernel_rfl) rfl
        have p4 : a1.tmps.getD 13 undef = str [b] := hp 4 13 (by kernel_rfl) rfl
        simp only [Array.getD_eq_getD_getElem?] at p0 p4
        refine owes_call (f := 15) (args := #[.agg cs.toArray, str [b]]) ?_ ?_
        · go_simp
        · refine (add_any [] [b] cs hs0 (by simp) w7 (hcK _ w7 hb0 hb).1 (hcK _ w7 hb0 hb).2.1).mono ?_
          rintro e w8 ⟨cs', rfl, h1, h2⟩
          exact ⟨_, rfl, ⟨cs', rfl, h1⟩, h2⟩
      | 6, _ =>
        intro o a1 w7 ho hb hf hp
        obtain rfl := Option.some.inj ho.symm
        have hz34 := zeroValue34 w7
        refine owes_value (v := .pointer (some ⟨w7.heap.size, 0, none⟩)) (w' := w7.alloc (.cells zero34.toArray 34)) ?_ ⟨w7.heap.size, rfl, Blk.new _ _ _, by have := (hcK _ w7 hb0 hb).2.2.1; simp at this; omega⟩ ((Below.refl _ _).alloc (Nat.le_refl _) _)
        go_simp
  case hend =>
    intro vs w7 hb hp
    obtain ⟨cs0, p5, hs0⟩ : ∃ cs, vs 5 = .agg cs.toArray ∧ StreamOf [b] cs := hp 5 (by omega)
    obtain ⟨g, p6, hB6, hg6⟩ : ∃ g, vs 6 = .pointer (some ⟨g, 0, none⟩) ∧ Blk w7 g zero34 34 ∧ w.heap.size + 1 ≤ g := hp 6 (by omega)
    obtain ⟨_, _, hs7, hb7⟩ := hcK _ w7 hb0 hb
    simp only [putAll, List.drop_succ_cons, List.drop_zero, p5, p6, List.getElem?_cons_zero, List.getElem?_cons_succ, Option.bind_some, Act.put, List.setIfInBounds_toArray, List.set_cons_zero, List.set_cons_succ]
    clear hp
    go_wp2_with (refine wpList_store_blk (ty := 34) (n := 73) (vs := cs0) hB6 rfl rfl rfl rfl rfl (by kernel_rfl) hs0.length (by simp [zero34]) hs0.oneCell ?_)
    intro w8 hb8 ho8
    have hd8 : List.drop 73 zero34 = [] := by rfl
    have hB8 : Blk w8 g cs0 34 := by simpa [hd8] using hb8
    clear hb8 hd8
    have hB4 : Blk w8 w.heap.size (List.replicate 16 (byv 0)) 44 := ho8.blk (by omega) (hB0.below hb7 (by simp))
    have hbw8 : Below w.heap.size w w8 := ho8.below (hb0.trans (hb7.mono (by simp))) (by omega)
    have Hs0 := Lib.hid hs0
    clear hs0 hB6 ho8 hb7 hB0 hb hb0
    go_wp2
    go_loopw [17] (fun c wr => ∃ i : Nat, i ≤ ps.length ∧ c = .int .i64 i ∧ ∃ cs, Blk wr g cs 34 ∧ Hid (StreamOf (b :: (ps.take i).flatMap wireBytes) cs) ∧ Blk wr w.heap.size (List.replicate 16 (byv 0)) 44 ∧ Below w.heap.size w wr) (fun c _ => ps.length - (intOf c).toNat)
    case atStart => exact ⟨0, by omega, rfl, cs0, hB8, by simpa using Hs0, hB4, hbw8⟩
    case round =>
      obtain ⟨i, hi, rfl, cs, hB, Hs, hB4, hbw⟩ := hrel
      have hzr := hbw.size
      by_cases hin : i < ps.length
      · obtain ⟨_, ⟨hv, h0⟩ | ⟨b0, off, cap', hv, hc1, hc2, hC, hlt⟩⟩ := HSL.out
        · omega
        obtain ⟨rfl, rfl⟩ : sa = some ⟨b0, off, none⟩ ∧ cap = cap' := by
          injection hv with e1 e2 e3; exact ⟨e1, e3⟩
        obtain ⟨p, Hp⟩ : ∃ p, Hid (p = ps.getD i []) := ⟨_, rfl⟩
        have hpl : p.length < 65536 := HP0.out p (by rw [Hp.out]; simp [hin])
        have hwl := wireBytes_len p
        have cx : wr.cell? ⟨b0, off + i, none⟩ = some (str p) := (hC.below hbw hlt) i (str p) (by rw [Hp.out]; simp [hin])
        have hfl := flat_len (ps.take i) (fun q hq => HP0.out q (List.mem_of_mem_take hq))
        have hfl2 : (ps.take i).length ≤ i := by simp; omega
        obtain ⟨M, HM⟩ : ∃ M, Hid (M = b :: (ps.take i).flatMap wireBytes) := ⟨_, rfl⟩
        have hMl : M.length ≤ 65539 * i + 1 := by
          rw [HM.out, List.length_cons]
          have := Nat.mul_le_mul_left 65539 hfl2
          omega
        rw [← HM.out] at Hs
        clear hfl hfl2 hC hv
        have hltg := hB.lt
        go_wp2
        refine wp_region_rg' 5 (fun i v W => match i with
          | 0 => v = .agg cs.toArray
          | 1 => v = str p
          | 2 => Sl W 1 v (wireBytes p).length ((wireBytes p).map byv)
          | 3 => v = str (wireBytes p)
          | 4 => ∃ cs', v = .agg cs'.toArray ∧ StreamOf (M ++ wireBytes p) cs'
          | _ => True) (by kernel_rfl) (by kernel_rfl) ?stable ?hop ?hend
        case stable =>
          intro i v W W' h hb
          match i, h with
          | 2, h => exact Sl.below h hb
          | 0, h => exact h
          | 1, h => exact h
          | 3, h => exact h
          | 4, h => exact h
          | _ + 5, h => exact h
        case hop =>
          intro ix hix
          match ix, hix with
          | 0, _ =>
            intro o a1 w7 ho hb hf hp
            obtain rfl := Option.some.inj ho.symm
            have f5 : a1.tmps.getD 5 undef = .pointer (some ⟨g, 0, none⟩) := hf 5 (by kernel_rfl)
            exact owes_load rfl f5 (load34 (hB.below (hcK wr w7 hbw hb).2.2.2 hltg) Hs.out.length) rfl
          | 1, _ =>
            intro o a1 w7 ho hb hf hp
            obtain rfl := Option.some.inj ho.symm
            have f7 : a1.tmps.getD 7 undef = str p := hf 7 (by kernel_rfl)
            simp only [Array.getD_eq_getD_getElem?] at f7
            refine owes_value (v := str p) (w' := w7) ?_ rfl (Below.refl _ _)
            go_simp
          | 2, _ =>
            intro o a1 w7 ho hb hf hp
            obtain rfl := Option.some.inj ho.symm
            have p1 : a1.tmps.getD 22 undef = str p := hp 1 22 (by kernel_rfl) rfl
            simp only [Array.getD_eq_getD_getElem?] at p1
            refine owes_call (f := 33) (args := #[str p]) ?_ ?_
            · go_simp
            · refine (wbytes_any p hpl w7).mono ?_
              rintro e w8 ⟨x, rfl, h1, h2⟩
              exact ⟨x, rfl, Sl.of_owns h1, h2⟩
          | 3, _ =>
            intro o a1 w7 ho hb hf hp
            obtain rfl := Option.some.inj ho.symm
            have p3 : Sl w7 1 (a1.tmps.getD 23 undef) (wireBytes p).length ((wireBytes p).map byv) := hp 2 23 (by kernel_rfl) rfl
            obtain ⟨x, hx⟩ : ∃ x, a1.tmps.getD 23 undef = x := ⟨_, rfl⟩
            rw [hx] at p3
            have hcv := conv22 w7 x (wireBytes p) p3
            simp only [Array.getD_eq_getD_getElem?] at hx
            refine owes_value (v := str (wireBytes p)) (w' := w7) ?_ rfl (Below.refl _ _)
            go_simp
          | 4, _ =>
            intro o a1 w7 ho hb hf hp
            obtain rfl := Option.some.inj ho.symm
            have p0 : a1.tmps.getD 21 undef = .agg cs.toArray := hp 0 21 (by kernel_rfl) rfl
            have p3 : a1.tmps.getD 24 undef = str (wireBytes p) := hp 3 24 (by kernel_rfl) rfl
            simp only [Array.getD_eq_getD_getElem?] at p0 p3
            refine owes_call (f := 15) (args := #[.agg cs.toArray, str (wireBytes p)]) ?_ ?_
            · go_simp
            · refine (add_any M (wireBytes p) cs Hs.out (by omega) w7 (hcK wr w7 hbw hb).1 (hcK wr w7 hbw hb).2.1).mono ?_
              rintro e w8 ⟨cs', rfl, h1, h2⟩
              exact ⟨_, rfl, ⟨cs', rfl, h1⟩, h2⟩
        case hend =>
          intro vs w7 hb hp
          obtain ⟨cs', p4, hs'⟩ : ∃ cs', vs 4 = .agg cs'.toArray ∧ StreamOf (M ++ wireBytes p) cs' := hp 4 (by omega)
          obtain ⟨_, _, hs7, hb7⟩ := hcK wr w7 hbw hb
          simp only [putAll, List.drop_succ_cons, List.drop_zero, p4, List.getElem?_cons_zero, List.getElem?_cons_succ, Option.bind_some, Act.put, List.setIfInBounds_toArray, List.set_cons_zero, List.set_cons_succ]
          clear hp
          go_wp2_with (refine wpList_store_blk (ty := 34) (n := 73) (vs := cs') (hB.below hb7 hltg) rfl rfl rfl rfl rfl (by kernel_rfl) hs'.length (by simp [Hs.out.length]) hs'.oneCell ?_)
          intro w8 hb8 ho8
          have hB8 : Blk w8 g cs' 34 := by simpa [Hs.out.length, List.drop_of_length_le (show cs.length ≤ 73 by rw [Hs.out.length]; omega)] using hb8
          have hB4' : Blk w8 w.heap.size (List.replicate 16 (byv 0)) 44 := ho8.blk (by omega) (hB4.below hb7 hB4.lt)
          have hbw8 : Below w.heap.size w w8 := ho8.below (hbw.trans (hb7.mono hzr)) (by omega)
          have Hs8 := Lib.hid hs'
          clear hb8 hs'
          go_wp2
          go_roundw
          case rel =>
            refine ⟨i + 1, by omega, by go_num, cs', hB8, ?_, hB4', hbw8⟩
            have e : (b :: (ps.take (i + 1)).flatMap wireBytes) = M ++ wireBytes p := by
              rw [HM.out, Hp.out, List.take_succ_eq_append_getElem hin, List.flatMap_append]; simp [hin]
            rw [e]; exact Hs8
          case measure => simp [intOf]; omega
      · obtain rfl : i = ps.length := by omega
        rw [List.take_length] at Hs
        have hfl := flat_len ps HP0.out
        have hfb := Nat.mul_le_mul_left 65539 hn
        obtain ⟨M, HM⟩ : ∃ M, Hid (M = b :: ps.flatMap wireBytes) := ⟨_, rfl⟩
        have hMl : M.length ≤ 100000000 := by rw [HM.out, List.length_cons]; omega
        rw [← HM.out] at Hs
        clear hfl hfb
        have hla : ((sha M).map byv).length = 32 := by simp [sha_length]
        have hl34 := Hs.out.length
        go_wp2_with (first | (refine wpList_load_cells (ty := 34) (n := 73) hB.cells0 rfl rfl rfl Tryd.underlying34 rfl (by kernel_rfl) hl34 ?_) | (refine wpList_store_blk (ty := 24) (n := 32) (vs := (sha M).map byv) (Blk.new _ _ 24) rfl rfl rfl rfl rfl (by kernel_rfl) hla (by simp) (bytes_oneCell _) ?_) | (go_at_call 17; refine (ssum_any M cs Hs.out (by omega) wr (HK.out.below hbw h1) (by omega)).mono ?_; rintro e w2 ⟨rfl, hb2⟩))
        intro w3 hb3 ho3
        have hz2 := hb2.size
        have hB3 : Blk w3 w2.heap.size ((sha M).map byv) 24 := hb3
        have hB4' : Blk w3 w.heap.size (List.replicate 16 (byv 0)) 44 := ho3.blk (by have := hB4.lt; omega) ((hB4.below hb2 hB4.lt).alloc _)
        have hbw3 : Below w.heap.size w w3 := ho3.below ((hbw.trans (hb2.mono hzr)).alloc (by omega) _) (by omega)
        clear hb3
        have hat : ∀ W, (Instr.arrayAt 44 (.slice (some ⟨w2.heap.size, 0, none⟩) 16 32)).run Tryd.prog W = .ok (.pointer (some ⟨w2.heap.size, 0, none⟩)) W := fun W => run_arrayAt W 44 _ 16 _ 16 32 Tryd.underlying44 (by omega)
        have hl16 : (((sha M).take 16).map byv).length = 16 := by simp [sha_length]
        go_wp2_with (first | (refine wpList_load_blk (ty := 44) (n := 16) (((sha M).take 16).map byv) hB3 (by simp) rfl rfl rfl Tryd.underlying44 rfl (by kernel_rfl) (by rw [hla]; omega) ?_) | (refine wpList_store_blk (ty := 44) (n := 16) (vs := ((sha M).take 16).map byv) hB4' rfl rfl rfl rfl rfl (by kernel_rfl) hl16 (by simp) (bytes_oneCell _) ?_))
        intro w4 hb4 ho4
        have hB4f : Blk w4 w.heap.size (((sha M).take 16).map byv) 44 := by simpa using hb4
        clear hb4
        go_wp2
        refine bodyPost_ret (results_blk rfl hB4f rfl Tryd.underlying44 rfl ?_) rfl ⟨?_, ho4.below hbw3 (Nat.le_refl _)⟩
        · rw [hl16]; kernel_rfl
        · rw [ofF, inputF, ← Hb.out, ← HM.out]
end Go.Proofs.YtcdgpkhfflehjaaDoor
