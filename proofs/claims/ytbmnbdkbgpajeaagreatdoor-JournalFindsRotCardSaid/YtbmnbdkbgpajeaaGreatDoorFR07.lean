/- Write of the program's disk. -/
import Derived.Test.YtbmnbdkbgpajeaaGreatDoorFR06
import Derived.Test.YtbmnbdkbgpajeaaGreatDoorFR04
import Derived.Deep.CutBlock
import Derived.Stop.BytesEq
import Derived.Laws.CopyOwn
/- Write of the program's disk. -/
section
namespace Go.Proofs.YtbmnbdkbgpajeaaGreatDoor
open Go.RowKit Go.Own Go.Disk Go.BigFrame
attribute [local go_sem] setCell_twice str_size
theorem sl_cases {w : World} {n : Nat} {sa : Option Addr} {cap : Nat} {vs : List Value} (h : Sl w 1 (.slice sa n cap) n vs) (hn : 0 < n) : ∃ b off, sa = some ⟨b, off, none⟩ ∧ n ≤ cap ∧ cap ≤ maxLen ∧ Cells w b off vs ∧ b < w.heap.size := by
  obtain ⟨_, ⟨_, h0⟩ | ⟨b, off, cap', hv, hc1, hc2, hC, hlt⟩⟩ := h
  · omega
  · injection hv with e1 e2 e3
    subst e3
    exact ⟨b, off, e1, hc1, hc2, hC, hlt⟩
theorem sl_pos {w : World} {v : Value} {b : List UInt8} (h : Sl w 1 v b.length (b.map byv)) (hb : b.length = 64) : ∃ g off cap, v = .slice (some ⟨g, off, none⟩) 64 cap ∧ 64 ≤ cap := by
  obtain ⟨_, ⟨_, h0⟩ | ⟨g, off, cap, hv, hc1, _⟩⟩ := h
  · omega
  · exact ⟨g, off, cap, by rw [hv, hb], by omega⟩
theorem inR_upd (d : DS) (i k : Int) (g : Sec → Sec) : inR (upd d i g) k = inR d k := by simp [inR, upd]
theorem sec_upd (d : DS) {i k : Int} (g : Sec → Sec) (hi : inR d i = true) (hk : inR d k = true) : sec (upd d i g) k = if k = i then g (sec d i) else sec d k := by
  obtain ⟨_, h1, h2, _⟩ := sec_mem hi
  obtain ⟨_, h3, h4, _⟩ := sec_mem hk
  unfold sec upd
  simp only [List.getD_eq_getElem?_getD, List.getElem?_modify]
  by_cases e : k = i
  · subst e
    simp [List.getElem?_eq_getElem h1]
  · have : i.toNat ≠ k.toNat := by omega
    simp [this, e]
theorem PD.write {w w' : World} {f : Ft} {d : DS} (h : PD w f d) {i : Int} (hi : inR d i = true) {b : List UInt8} (hb : b.length = 64) {m : List (Int × Value)} (hg : ∀ k, mget m k = if inR d k then (sec d k).p.map bval else none)
    (hm : IMap w' f.pb (mset m i (bval b))) (hc : Chg [f.pb] w w') : PD w' f (upd d i fun x => { x with p := some b }) := by
  obtain ⟨hft, ⟨l, h1, h2⟩, h3, _, ⟨m', h6, h7⟩, h8, h9⟩ := h
  refine ⟨by simpa [upd] using hft, ⟨l, ?_, h2⟩, ?_, ⟨_, hm, fun k => ?_⟩, ⟨m', h6.chg hc (by simp; exact Ne.symm h9.2.2.2.2.2), fun k => ?_⟩, h8.upd _ _ fun x hx hp => ⟨hx, fun q hq => by simp at hq; rw [← hq]; exact hb⟩, h9⟩
  · have e : (upd d i fun x => { x with p := some b }).s.length = d.s.length := by simp [upd]
    rw [e]; exact h1.chg hc (by simp; exact h9.2.1)
  · have e : flatS (upd d i fun x => { x with p := some b }).s f.sp = flatS d.s f.sp := by
      obtain ⟨_, h1, _, _⟩ := sec_mem hi
      unfold flatS flat upd
      congr 1
      rw [List.flatMap_def, List.flatMap_def]
      congr 1
      apply List.ext_getElem?
      intro j
      simp only [List.getElem?_map, List.getElem?_modify]
      cases d.s[j]? with
      | none => rfl
      | some x => by_cases e : i.toNat = j <;> simp [e]
    rw [e]; exact h3.chg hc (by simp; exact h9.2.2.2.1)
  · rw [mget_mset, inR_upd]
    by_cases e : k = i
    · subst e; rw [if_pos rfl, if_pos hi, sec_upd d _ hi hi, if_pos rfl]; rfl
    · rw [if_neg e, hg]
      by_cases hk : inR d k = true
      · rw [if_pos hk, if_pos hk, sec_upd d _ hi hk, if_neg e]
      · rw [if_neg hk, if_neg hk]
  · rw [h7, inR_upd]
    by_cases hk : inR d k = true
    · rw [sec_upd d _ hi hk]
      by_cases e : k = i
      · subst e; rw [if_pos rfl]
      · rw [if_neg e]
    · simp [hk]
theorem acheck_ok {d : DS} {i : Int} (hc : acheck d i = 0) : inR d i = true ∧ d.off = false := by
  unfold acheck at hc
  split at hc
  · cases hc
  · rename_i h
    split at hc
    · exact ⟨by assumption, by simpa using h⟩
    · cases hc
theorem arrayAt_exec {o : Oper} {ρ : Operand → Value} {x : Operand} {g off cap : Nat} (ho : o.op = .sliceToArrayPointer 86 x) (hx : ρ x = .slice (some ⟨g, off, none⟩) 64 cap) (w : World) :
    (execOp ρ o).run Tryz.prog w = .ok (.value (.pointer (some ⟨g, off, none⟩))) w := by
  unfold execOp
  simp [ho, hx, Instr.arrayAt, run_underlying hTblk, Result.andThen]
set_option maxHeartbeats 800000 in
set_option maxRecDepth 100000 in
theorem write_any (f : Ft) (d : DS) (i : Int) (b : List UInt8) (w : World) (h : PD w f d) : Calls Tryz.prog 10 #[.pointer (some ⟨f.p, 0, none⟩), .int .i64 i, str b] w fun e w' => e = .returned (.int .i64 (awrite d i b).1) ∧ PD w' f (awrite d i b).2 ∧ Chg f.all w w' := by
  obtain ⟨l, hB, _⟩ := h.head
  go_enter Tryz.func10, Tryz.ntmps10
  by_cases hc : acheck d i = 0
  · obtain ⟨hi, _⟩ := acheck_ok hc
    by_cases hbl : b.length = 64
    · by_cases hs : (astep d).1 = 0
      · have hk : awrite d i b = (0, upd (astep d).2 i fun x => { x with p := some b }) := by simp [awrite, hc, hbl, hs]
        have hbl' : (b.map byv).length = 64 := by simp [hbl]
        obtain ⟨d1, hd1⟩ : ∃ d1, d1 = (astep d).2 := ⟨_, rfl⟩
        have hi1 : inR d1 i = true := by rw [hd1]; unfold inR at hi ⊢; rw [astep_s]; exact hi
        rw [← hd1] at hk
        go_wp2_with (first | (go_at_call 43; refine (check_any f d i w h).mono ?_; rintro e w' ⟨rfl, rfl⟩; rw [hc]) | (go_at_call 44; refine (step_any f d _ h).mono ?_; rintro e w1 ⟨rfl, h1, hc1⟩; rw [hs]; rw [← hd1] at h1))
        obtain ⟨l', hB', _⟩ := h1.head
        obtain ⟨m, hmm, hmg⟩ := h1.pend
        have hz' := hc1.size
        refine wp_region_sqB 9 [3, 6, 7, 8] (fun i v W => match i with
          | 3 => v = .map (some f.pb)
          | 6 => Sl W 1 v b.length (b.map byv)
          | 7 => ∃ g off, v = .pointer (some ⟨g, off, none⟩) ∧ Cells W g off (b.map byv) ∧ g < W.heap.size
          | 8 => v = bval b
          | _ => True) (by kernel_rfl) (by kernel_rfl) ?stable ?main
        case stable =>
          intro i v W W' h hb
          match i, h with
          | 0, h => exact h
          | 1, h => exact h
          | 2, h => exact h
          | 3, h => exact h
          | 4, h => exact h
          | 5, h => exact h
          | 6, h => exact Sl.below h hb
          | 7, h => exact (by obtain ⟨g, off, h1, h2, h3⟩ := h; exact ⟨g, off, h1, h2.below (ExtB.below hb) h3, Nat.lt_of_lt_of_le h3 (ExtB.below hb).size⟩)
          | 8, h => exact h
          | _ + 9, _ => exact trivial
        case main =>
          simp only [List.take_succ_cons, List.take_zero, List.drop_succ_cons, List.drop_zero]
          repeat (refine sqw_quiet rfl rfl (ExtB.refl _) ?_; go_big_quiet_step (fail); refine wpQuiet_nil ?_)
          refine sqw_postY rfl rfl rfl ?_ ?_
          · intro W1 hb hf
            have cx : W1.cell? ⟨f.p, 1, none⟩ = some (.map (some f.pb)) := (hB'.below (ExtB.undrew hb) hB'.lt).cell rfl
            refine yields_value (v := .map (some f.pb)) (w' := W1) ?_ ⟨rfl, ExtB.refl _⟩
            go_simp
          intro v Wj hv
          obtain rfl : v = .map (some f.pb) := hv
          simp only [Act.put, List.setIfInBounds_toArray, List.set_cons_zero, List.set_cons_succ]
          repeat (refine sqw_quiet rfl rfl (ExtB.refl _) ?_; go_big_quiet_step (fail); refine wpQuiet_nil ?_)
          refine sqw_postY rfl rfl rfl ?_ ?_
          · intro W1 hb hf
            exact yields_str_bytes (bs := b) rfl rfl hTs hTb hT8 (by omega) fun v w' h1 h2 _ => ⟨h1, h2⟩
          intro v Wj hv
          obtain ⟨g, off, cap, rfl, hcap⟩ : ∃ g off cap, v = .slice (some ⟨g, off, none⟩) 64 cap ∧ 64 ≤ cap := sl_pos hv hbl
          clear hv
          simp only [Act.put, List.setIfInBounds_toArray, List.set_cons_zero, List.set_cons_succ]
          repeat (refine sqw_quiet rfl rfl (ExtB.refl _) ?_; go_big_quiet_step (fail); refine wpQuiet_nil ?_)
          refine sqw_postY rfl rfl rfl ?_ ?_
          · intro W1 hb hf
            have p6 : Sl W1 1 (.slice (some ⟨g, off, none⟩) 64 cap) b.length (b.map byv) := hf 6 29 (by kernel_rfl) rfl rfl (fun o h => by obtain rfl := Option.some.inj h; rfl)
            rw [hbl] at p6
            obtain ⟨g', off', e, _, _, hC, hlt⟩ := sl_cases p6 (by decide)
            injection e with e
            injection e with e1 e2
            subst e1 e2
            refine yields_value (v := .pointer (some ⟨g, off, none⟩)) (w' := W1) ?_ ⟨⟨g, off, rfl, hC, hlt⟩, ExtB.refl _⟩
            exact arrayAt_exec rfl rfl W1
          intro v Wj hv
          obtain ⟨g1, off1, rfl, _⟩ := hv
          simp only [Act.put, List.setIfInBounds_toArray, List.set_cons_zero, List.set_cons_succ]
          repeat (refine sqw_quiet rfl rfl (ExtB.refl _) ?_; go_big_quiet_step (fail); refine wpQuiet_nil ?_)
          refine sqw_postY rfl rfl rfl ?_ ?_
          · intro W1 hb hf
            have p7 : ∃ g off, Value.pointer (some ⟨g1, off1, none⟩) = .pointer (some ⟨g, off, none⟩) ∧ Cells W1 g off (b.map byv) ∧ g < W1.heap.size := hf 7 30 (by kernel_rfl) rfl rfl (fun o h => by obtain rfl := Option.some.inj h; rfl)
            obtain ⟨g', off', e, hC, _⟩ := p7
            injection e with e
            injection e with e
            injection e with e1 e2
            subst e1 e2
            exact yields_load rfl hC rfl hTblk rfl (by kernel_rfl) hbl' ⟨rfl, ExtB.refl _⟩
          intro v Wj hv
          obtain rfl : v = bval b := hv
          simp only [Act.put, List.setIfInBounds_toArray, List.set_cons_zero, List.set_cons_succ]
          repeat (refine sqw_quiet rfl rfl (ExtB.refl _) ?_; go_big_quiet_step (fail); refine wpQuiet_nil ?_)
          intro w7 hb _
          have hb7 := ExtB.undrew hb
          go_wp2_with (refine wpList_mapUpdate_imap (k := i) (v := bval b) (hmm.below hb7) rfl rfl rfl rfl rfl rfl hTp hKp ?_)
          intro w8 hm8 hc8 _
          have hP := (h1.below hb7).write hi1 hbl hmg hm8 hc8
          go_wp2
          go_ret
          rw [hk]
          refine ⟨rfl, hP, ?_⟩
          exact ((hc1.mono (by simp [Ft.all])).trans (.of_below hb7)).trans (hc8.mono (by simp [Ft.all]))
      · have hk : awrite d i b = astep d := by simp [awrite, hc, hbl, hs]
        have hs' : ((astep d).1 == 0) = false := by simpa using hs
        go_wp2_with (first | (go_at_call 43; refine (check_any f d i w h).mono ?_; rintro e w' ⟨rfl, rfl⟩; rw [hc]) | (go_at_call 44; refine (step_any f d _ h).mono ?_; rintro e w1 ⟨rfl, h1, hc1⟩))
        go_ret
        rw [hk]
        exact ⟨rfl, h1, hc1.mono (by simp [Ft.all])⟩
    · have hk : awrite d i b = (1, d) := by simp [awrite, hc, hbl]
      go_wp2_with (go_at_call 43; refine (check_any f d i w h).mono ?_; rintro e w' ⟨rfl, rfl⟩; rw [hc])
      go_ret
      rw [hk]
      exact ⟨rfl, h, Chg.refl _ _⟩
  · have hk : awrite d i b = (acheck d i, d) := by simp [awrite, hc]
    go_wp2_with (go_at_call 43; refine (check_any f d i w h).mono ?_; rintro e w' ⟨rfl, rfl⟩)
    go_ret
    rw [hk]
    exact ⟨rfl, h, Chg.refl _ _⟩
end Go.Proofs.YtbmnbdkbgpajeaaGreatDoor
end
/- settle of the program's disk. -/
section
namespace Go.Proofs.YtbmnbdkbgpajeaaGreatDoor
open Go.RowKit Go.Own Go.Disk Go.BigFrame
attribute [local go_sem] setCell_twice str_size
theorem sqw_nil {P : Program} {l : List Oper} {ps : List Nat} {Ext : World → World → Prop} {w0 : World} {Post : Nat → Value → World → Prop} {Fin : Act → Prop} {k : Nat} {a : Act} (h : Fin a) : SqW P l ps Ext w0 Post Fin k [] a := h
attribute [local irreducible] SqW
theorem size8 (w : World) : (sizeOf 5).run Tryz.prog w = .ok 1 w := by kernel_rfl
theorem neqBlk (w : World) (a b : List UInt8) (ha : a.length = 64) (hb : b.length = 64) : (binOp .neq 86 (bval a) (bval b)).run Tryz.prog w = .ok (.bool (a != b)) w := by
  unfold bval
  have h : (Op.equalIn 10000 86 (.agg (a.map byv).toArray) (.agg (b.map byv).toArray)).run Tryz.prog w = .ok (a == b) w := run_equalIn_bytes (P := Tryz.prog) w 9998 86 5 64 hTblk hT8 size8 a b ha hb
  rw [run_neq_struct, h]
  rfl
theorem guardBlk (w : World) (op : BinOp) (x y : Operand) (xs ys : Array Value) : (eqGuard op 86 x y (.agg xs) (.agg ys)).run Tryz.prog w = .ok () w := run_eqGuard_agg w op 86 x y xs ys (by kernel_rfl)
theorem neqBlk_exec {o : Oper} {ρ : Operand → Value} {x y : Operand} {a b : List UInt8} {ty : TypeId} (ho : o.op = .binOp .neq 86 x y ty) (hx : ρ x = bval a) (hy : ρ y = bval b) (ha : a.length = 64) (hb : b.length = 64) (w : World) :
    (execOp ρ o).run Tryz.prog w = .ok (.value (.bool (a != b))) w := by
  have hg := guardBlk w .neq x y (a.map byv).toArray (b.map byv).toArray
  change (eqGuard .neq 86 x y (bval a) (bval b)).run Tryz.prog w = _ at hg
  unfold execOp
  simp only [ho, hx, hy, Sem.run_bind, Sem.run_pure, Result.andThen_ok, hg, neqBlk w a b ha hb]
theorem zeroBool (w : World) : (zeroValue 4).run Tryz.prog w = .ok (.bool false) w := by kernel_rfl
theorem lookW {w : World} {f : Ft} {d : DS} (h : PD w f d) {i : Int} (hi : inR d i = true) (ok : Bool) :
    (Instr.lookup 45 (.map (some f.wb)) (.int .i64 i) ok).run Tryz.prog w = .ok (if ok then .tuple #[.bool (sec d i).w, .bool (sec d i).w] else .bool (sec d i).w) w := by
  obtain ⟨m, hm, hg⟩ := h.worn
  have := run_lookup_imap hTw hKp hm (zeroBool w) i ok
  rw [this, hg i, hi]
  cases (sec d i).w <;> rfl
theorem PD.del {w w' : World} {f : Ft} {d : DS} (h : PD w f d) {i : Int} (hi : inR d i = true) {m : List (Int × Value)} (hg : ∀ k, mget m k = if inR d k then (sec d k).p.map bval else none)
    (hm : IMap w' f.pb (mdel m i)) (hc : Chg [f.pb] w w') : PD w' f (upd d i fun x => { x with p := none }) := by
  obtain ⟨hft, ⟨l, h1, h2⟩, h3, _, ⟨m', h6, h7⟩, h8, h9⟩ := h
  refine ⟨by simpa [upd] using hft, ⟨l, ?_, h2⟩, ?_, ⟨_, hm, fun k => ?_⟩, ⟨m', h6.chg hc (by simp; exact Ne.symm h9.2.2.2.2.2), fun k => ?_⟩, h8.upd _ _ fun x hx hp => ⟨hx, fun q hq => by simp at hq⟩, h9⟩
  · have e : (upd d i fun x => { x with p := none }).s.length = d.s.length := by simp [upd]
    rw [e]; exact h1.chg hc (by simp; exact h9.2.1)
  · have e : flatS (upd d i fun x => { x with p := none }).s f.sp = flatS d.s f.sp := by
      unfold flatS flat upd
      congr 1
      rw [List.flatMap_def, List.flatMap_def]
      congr 1
      apply List.ext_getElem?
      intro j
      simp only [List.getElem?_map, List.getElem?_modify]
      cases d.s[j]? with
      | none => rfl
      | some x => by_cases e : i.toNat = j <;> simp [e]
    rw [e]; exact h3.chg hc (by simp; exact h9.2.2.2.1)
  · rw [mget_mdel, inR_upd]
    by_cases e : k = i
    · subst e; rw [if_pos rfl, if_pos hi, sec_upd d _ hi hi, if_pos rfl]; rfl
    · rw [if_neg e, hg]
      by_cases hk : inR d k = true
      · rw [if_pos hk, if_pos hk, sec_upd d _ hi hk, if_neg e]
      · rw [if_neg hk, if_neg hk]
  · rw [h7, inR_upd]
    by_cases hk : inR d k = true
    · rw [sec_upd d _ hi hk]
      by_cases e : k = i
      · subst e; rw [if_pos rfl]
      · rw [if_neg e]
    · simp [hk]
theorem PD.text {w w' : World} {f : Ft} {d : DS} (h : PD w f d) {i : Int} (hi : inR d i = true) {t : List UInt8} (ht : t.length = 64)
    (hb : Blk w' f.bb ((flatS d.s f.sp).take (i.toNat * 64) ++ t.map byv ++ (flatS d.s f.sp).drop (i.toNat * 64 + 64)) 86) (hc : Chg [f.bb] w w') : PD w' f (upd d i fun x => { x with t := t }) := by
  obtain ⟨hft, ⟨l, h1, h2⟩, h3, ⟨m, h4, h5⟩, ⟨m', h6, h7⟩, h8, h9⟩ := h
  obtain ⟨_, hil, _, _⟩ := sec_mem hi
  refine ⟨by simpa [upd] using hft, ⟨l, ?_, h2⟩, ?_, ⟨m, h4.chg hc (by simp; exact Ne.symm h9.2.2.2.1), fun k => ?_⟩, ⟨m', h6.chg hc (by simp; exact Ne.symm h9.2.2.2.2.1), fun k => ?_⟩, h8.upd _ _ fun x hx hp => ⟨ht, hp⟩, h9⟩
  · have e : (upd d i fun x => { x with t := t }).s.length = d.s.length := by simp [upd]
    rw [e]; exact h1.chg hc (by simp; exact h9.1)
  · have e := flatS_modify (sp := f.sp) h8.t hil (fun x => { x with t := t }) ht
    change Blk w' f.bb (flatS (d.s.modify i.toNat fun x => { x with t := t }) f.sp) _
    rw [e]; exact hb
  · rw [h5, inR_upd]
    by_cases hk : inR d k = true
    · rw [if_pos hk, if_pos hk, sec_upd d _ hi hk]
      by_cases e : k = i
      · subst e; rw [if_pos rfl]
      · rw [if_neg e]
    · rw [if_neg hk, if_neg hk]
  · rw [h7, inR_upd]
    by_cases hk : inR d k = true
    · rw [sec_upd d _ hi hk]
      by_cases e : k = i
      · subst e; rw [if_pos rfl]
      · rw [if_neg e]
    · simp [hk]
theorem upd_upd (d : DS) (i : Int) (g g' : Sec → Sec) : upd (upd d i g) i g' = upd d i (fun x => g' (g x)) := by
  unfold upd
  simp only [DS.mk.injEq, and_true]
  apply List.ext_getElem?
  intro j
  simp only [List.getElem?_modify]
  by_cases e : i.toNat = j
  · simp [e]; rfl
  · simp [e]
theorem upd_congr {d : DS} {i : Int} (hi : inR d i = true) {g g' : Sec → Sec} (h : g (sec d i) = g' (sec d i)) : upd d i g = upd d i g' := by
  obtain ⟨_, hil, _, hs⟩ := sec_mem hi
  unfold upd
  simp only [DS.mk.injEq, and_true]
  apply List.ext_getElem?
  intro j
  simp only [List.getElem?_modify]
  by_cases e : i.toNat = j
  · subst e
    have : d.s[i.toNat]? = some (sec d i) := by rw [← hs, List.getD_eq_getElem?_getD, List.getElem?_eq_getElem hil]; rfl
    simp [this, h]
  · simp [e]
theorem sliceH (g off c : Nat) (hc : c ≤ 64) (W : World) : (Instr.sliceAt 86 (.pointer (some ⟨g, off, none⟩)) none (some (.int .i64 (c : Int))) none).run Tryz.prog W = .ok (.slice (some ⟨g, off, none⟩) c 64) W := by
  have e : Tryz.prog.arrayLen 86 = 64 := by kernel_rfl
  have e2 : Tryz.prog.elem 86 = 5 := by kernel_rfl
  rw [run_sliceAt_array_h W 86 ⟨g, off, none⟩ (by rw [e, e2]; exact hTblk) .i64 c (by omega) (by rw [e]; omega), e2, size8, e]
  simp [slicedAt, Result.andThen, Addr.add_lit]
set_option maxHeartbeats 1600000 in
set_option maxRecDepth 100000 in
theorem settle_any (f : Ft) (d : DS) (i p : Int) (w : World) (h : PD w f d) (hi : inR d i = true) (hp : (sec d i).p.isSome = true) : Calls Tryz.prog 65 #[.pointer (some ⟨f.p, 0, none⟩), .int .i64 i, .int .i64 p] w fun e w' => e = .returned (.tuple #[]) ∧ PD w' f (upd d i (settle1 p)) ∧ Chg f.all w w' := by
  obtain ⟨l, hB, _⟩ := h.head
  have c1 : w.cell? ⟨f.p, 1, none⟩ = some (.map (some f.pb)) := hB.cell rfl
  have hz := fun W => zeroBlk W
  obtain ⟨q, hq⟩ := Option.isSome_iff_exists.1 hp
  obtain ⟨hm, hil, hi0, hse⟩ := sec_mem hi
  have hlk := lookP h hi false
  rw [hq] at hlk
  simp only [Bool.false_eq_true, if_false, Option.getD_some] at hlk
  have hql := h.ok.p _ hm q hq
  have htl0 := h.ok.t _ hm
  have hql' : (q.map byv).length = 64 := by simp [hql]
  clear hse hp
  obtain ⟨n, hn⟩ : ∃ n : Nat, n = i.toNat := ⟨_, rfl⟩
  obtain rfl : i = (n : Int) := by omega
  clear hn
  have hil' : n < d.s.length := by omega
  clear hil hi0
  go_enter Tryz.func65, Tryz.ntmps65
  go_wp2_with (refine wpList_store_blk (ty := 86) (n := 64) (vs := q.map byv) (Blk.new _ _ 86) rfl rfl rfl rfl rfl (by kernel_rfl) hql' (by simp [zero64, zeros]) (bytes_oneCell _) ?_)
  intro w1 hb1 ho1
  have hB0' : Blk w1 w.heap.size (q.map byv) 86 := by
    have e : List.drop 64 zero64 = [] := rfl
    simpa [e] using hb1
  clear hb1 hlk hz
  have hw1 : Below w.heap.size w w1 := ho1.below ((Below.refl _ _).alloc (Nat.le_refl _) _) (Nat.le_refl _)
  clear ho1
  have h1 := h.below hw1
  obtain ⟨m, hmm, hmg⟩ := h1.pend
  have c1' : w1.cell? ⟨f.p, 1, none⟩ = some (.map (some f.pb)) := (hB.below hw1 hB.lt).cell rfl
  go_wp2_with (refine wpList_delete_imap (k := n) hmm rfl rfl rfl rfl rfl hTp hKp ?_)
  intro w2 hm2 hc2 _
  have h2 := h1.del hi hmg hm2 hc2
  have hlt0 := h.lt
  have hB0 : Blk w2 w.heap.size (q.map byv) 86 := hB0'.chg hc2 (by
    have := hlt0 f.pb (by simp [Ft.all])
    simp; omega)
  have hi2 : inR (upd d n fun x => { x with p := none }) n = true := by rw [inR_upd]; exact hi
  have hs2 : sec (upd d n fun x => { x with p := none }) n = { sec d n with p := none } := by rw [sec_upd d _ hi hi, if_pos rfl]
  have hlen2 : (upd d n fun x => { x with p := none }).s.length = d.s.length := by simp [upd]
  obtain ⟨d2, hd2⟩ : ∃ d2, d2 = upd d n fun x => { x with p := none } := ⟨_, rfl⟩
  rw [← hd2] at h2 hi2 hs2 hlen2
  obtain ⟨l2, hB2, _⟩ := h2.head
  rw [hlen2] at hB2
  obtain ⟨t0, ht0⟩ : ∃ t0, t0 = (sec d n).t := ⟨_, rfl⟩
  have htl : t0.length = 64 := by rw [ht0]; exact htl0
  have htl' : (t0.map byv).length = 64 := by simp [htl]
  have HT0 := Lib.hid ht0; clear ht0
  have hCt : ∀ W, Below w2.heap.size w2 W → Cells W f.bb (n * 64) (t0.map byv) := fun W hb => by
    refine (h2.blocks.below hb h2.blocks.lt).cells _ _ ?_
    rw [htl', flatS_at h2.ok.t (by omega)]
    have : d2.s.getD n default = sec d2 n := rfl
    rw [this, hs2, HT0.out]
  have hchg : Chg f.all w w2 := (Chg.of_below hw1).trans (hc2.mono (by simp [Ft.all]))
  clear hc2 hm2 hmm hmg c1 c1' hB
  by_cases hw : (sec d n).w = true
  · have hw2 : (sec d2 n).w = true := by rw [hs2]; exact hw
    go_wp2
    refine wp_region_sqB 18 [3, 5] (fun i v W => match i with
      | 3 => v = .map (some f.wb)
      | 5 => v = .bool true
      | _ => True) (by kernel_rfl) (by kernel_rfl) ?stable ?main
    case stable =>
      intro i v W W' h hb
      match i, h with
      | 0, h => exact h
      | 1, h => exact h
      | 2, h => exact h
      | 3, h => exact h
      | 4, h => exact h
      | 5, h => exact h
      | _ + 6, _ => exact trivial
    case main =>
      simp only [List.take_succ_cons, List.take_zero, List.drop_succ_cons, List.drop_zero]
      repeat (refine sqw_quiet rfl rfl (ExtB.refl _) ?_; go_big_quiet_step (fail); refine wpQuiet_nil ?_)
      refine sqw_postY rfl rfl rfl ?_ ?_
      · intro W1 hb hf
        have cx : W1.cell? ⟨f.p, 2, none⟩ = some (.map (some f.wb)) := (hB2.below (ExtB.undrew hb) hB2.lt).cell rfl
        refine yields_value (v := .map (some f.wb)) (w' := W1) ?_ ⟨rfl, ExtB.refl _⟩
        go_simp
      intro v Wj hv
      obtain rfl : v = .map (some f.wb) := hv
      simp only [Act.put, List.setIfInBounds_toArray, List.set_cons_zero, List.set_cons_succ]
      repeat (refine sqw_quiet rfl rfl (ExtB.refl _) ?_; go_big_quiet_step (fail); refine wpQuiet_nil ?_)
      refine sqw_postY rfl rfl rfl ?_ ?_
      · intro W1 hb hf
        have hlk := lookW (h2.below (ExtB.undrew hb)) hi2 false
        rw [hw2] at hlk
        refine yields_value (v := .bool true) (w' := W1) ?_ ⟨rfl, ExtB.refl _⟩
        simp only [Bool.false_eq_true, if_false] at hlk
        go_simp
      intro v Wj hv
      obtain rfl : v = .bool true := hv
      simp only [Act.put, List.setIfInBounds_toArray, List.set_cons_zero, List.set_cons_succ]
      repeat (refine sqw_quiet rfl rfl (ExtB.refl _) ?_; go_big_quiet_step (fail); refine wpQuiet_nil ?_)
      refine sqw_nil ?_
      intro w7 hb _
      have hb7 := ExtB.undrew hb
      refine wpList_nil ?_
      go_wp2
      refine bodyPost_end (results_none rfl _ _ _) rfl ?_
      refine ⟨rfl, ?_, hchg.trans (.of_below hb7)⟩
      have e : upd d n (settle1 p) = d2 := by
        rw [hd2]
        refine upd_congr hi ?_
        simp [settle1, hw]
      rw [e]
      exact h2.below hb7
  · have hw2 : (sec d2 n).w = false := by rw [hs2]; simpa using hw
    by_cases hqt : q = t0
    · have hqt' : (q != t0) = false := by simp [hqt]
      clear hqt
      go_wp2
      refine wp_region_sqB 18 [3, 5, 8, 12, 15, 16] (fun i v W => match i with
        | 3 => v = .map (some f.wb)
        | 5 => v = .bool false
        | 8 => v = bval q
        | 12 => v = .slice (some ⟨f.bb, 0, none⟩) d.s.length f.cap
        | 15 => v = bval t0
        | 16 => v = .bool false
        | _ => True) (by kernel_rfl) (by kernel_rfl) ?stable ?main
      case stable =>
        intro i v W W' h hb
        match i, h with
        | 0, h => exact h
        | 1, h => exact h
        | 2, h => exact h
        | 3, h => exact h
        | 4, h => exact h
        | 5, h => exact h
        | 6, h => exact h
        | 7, h => exact h
        | 8, h => exact h
        | 9, h => exact h
        | 10, h => exact h
        | 11, h => exact h
        | 12, h => exact h
        | 13, h => exact h
        | 14, h => exact h
        | 15, h => exact h
        | 16, h => exact h
        | _ + 17, _ => exact trivial
      case main =>
        simp only [List.take_succ_cons, List.take_zero, List.drop_succ_cons, List.drop_zero]
        repeat (refine sqw_quiet rfl rfl (ExtB.refl _) ?_; go_big_quiet_step (fail); refine wpQuiet_nil ?_)
        refine sqw_postY rfl rfl rfl ?_ ?_
        · intro W1 hb hf
          have cx : W1.cell? ⟨f.p, 2, none⟩ = some (.map (some f.wb)) := (hB2.below (ExtB.undrew hb) hB2.lt).cell rfl
          refine yields_value (v := .map (some f.wb)) (w' := W1) ?_ ⟨rfl, ExtB.refl _⟩
          go_simp
        intro v Wj hv
        obtain rfl : v = .map (some f.wb) := hv
        simp only [Act.put, List.setIfInBounds_toArray, List.set_cons_zero, List.set_cons_succ]
        repeat (refine sqw_quiet rfl rfl (ExtB.refl _) ?_; go_big_quiet_step (fail); refine wpQuiet_nil ?_)
        refine sqw_postY rfl rfl rfl ?_ ?_
        · intro W1 hb hf
          have hlk := lookW (h2.below (ExtB.undrew hb)) hi2 false
          rw [hw2] at hlk
          refine yields_value (v := .bool false) (w' := W1) ?_ ⟨rfl, ExtB.refl _⟩
          simp only [Bool.false_eq_true, if_false] at hlk
          go_simp
        intro v Wj hv
        obtain rfl : v = .bool false := hv
        simp only [Act.put, List.setIfInBounds_toArray, List.set_cons_zero, List.set_cons_succ]
        repeat (refine sqw_quiet rfl rfl (ExtB.refl _) ?_; go_big_quiet_step (fail); refine wpQuiet_nil ?_)
        refine sqw_postY rfl rfl rfl ?_ ?_
        · intro W1 hb hf
          have hC := (hB0.below (ExtB.undrew hb) hB0.lt).cells0
          exact yields_load rfl hC rfl hTblk rfl (by kernel_rfl) hql' ⟨rfl, ExtB.refl _⟩
        intro v Wj hv
        obtain rfl : v = bval q := hv
        simp only [Act.put, List.setIfInBounds_toArray, List.set_cons_zero, List.set_cons_succ]
        repeat (refine sqw_quiet rfl rfl (ExtB.refl _) ?_; go_big_quiet_step (fail); refine wpQuiet_nil ?_)
        refine sqw_postY rfl rfl rfl ?_ ?_
        · intro W1 hb hf
          have cx : W1.cell? ⟨f.p, 0, none⟩ = some (.slice (some ⟨f.bb, 0, none⟩) d.s.length f.cap) := (hB2.below (ExtB.undrew hb) hB2.lt).cell rfl
          refine yields_value (v := .slice (some ⟨f.bb, 0, none⟩) d.s.length f.cap) (w' := W1) ?_ ⟨rfl, ExtB.refl _⟩
          go_simp
        intro v Wj hv
        obtain rfl : v = .slice (some ⟨f.bb, 0, none⟩) d.s.length f.cap := hv
        simp only [Act.put, List.setIfInBounds_toArray, List.set_cons_zero, List.set_cons_succ]
        repeat (refine sqw_quiet rfl rfl (ExtB.refl _) ?_; go_big_quiet_step (fail); refine wpQuiet_nil ?_)
        refine sqw_postY rfl rfl rfl ?_ ?_
        · intro W1 hb hf
          have hC := hCt W1 (ExtB.undrew hb)
          exact yields_load rfl hC rfl hTblk rfl (by kernel_rfl) htl' ⟨rfl, ExtB.refl _⟩
        intro v Wj hv
        obtain rfl : v = bval t0 := hv
        simp only [Act.put, List.setIfInBounds_toArray, List.set_cons_zero, List.set_cons_succ]
        repeat (refine sqw_quiet rfl rfl (ExtB.refl _) ?_; go_big_quiet_step (fail); refine wpQuiet_nil ?_)
        refine sqw_postY rfl rfl rfl ?_ ?_
        · intro W1 hb hf
          refine yields_value (v := .bool false) (w' := W1) ?_ ⟨rfl, ExtB.refl _⟩
          rw [← hqt']
          exact neqBlk_exec rfl rfl rfl hql htl W1
        intro v Wj hv
        obtain rfl : v = .bool false := hv
        simp only [Act.put, List.setIfInBounds_toArray, List.set_cons_zero, List.set_cons_succ]
        repeat (refine sqw_quiet rfl rfl (ExtB.refl _) ?_; go_big_quiet_step (fail); refine wpQuiet_nil ?_)
        refine sqw_nil ?_
        intro w7 hb _
        have hb7 := ExtB.undrew hb
        have h7 := h2.below hb7
        refine wpList_nil ?_
        go_wp2
        refine bodyPost_end (results_none rfl _ _ _) rfl ?_
        refine ⟨rfl, ?_, hchg.trans (.of_below hb7)⟩
        have e : upd d n (settle1 p) = d2 := by
          rw [hd2]
          refine upd_congr hi ?_
          have hqt : q = t0 := by simpa using hqt'
          simp [settle1, hq, hqt, HT0.out]
        rw [e]
        exact h7
    · have hqt' : (q != t0) = true := by simp [hqt]
      clear hqt
      go_wp2
      refine wp_region_sqB 18 [3, 5, 8, 12, 15, 16] (fun i v W => match i with
        | 3 => v = .map (some f.wb)
        | 5 => v = .bool false
        | 8 => v = bval q
        | 12 => v = .slice (some ⟨f.bb, 0, none⟩) d.s.length f.cap
        | 15 => v = bval t0
        | 16 => v = .bool true
        | _ => True) (by kernel_rfl) (by kernel_rfl) ?stable ?main
      case stable =>
        intro i v W W' h hb
        match i, h with
        | 0, h => exact h
        | 1, h => exact h
        | 2, h => exact h
        | 3, h => exact h
        | 4, h => exact h
        | 5, h => exact h
        | 6, h => exact h
        | 7, h => exact h
        | 8, h => exact h
        | 9, h => exact h
        | 10, h => exact h
        | 11, h => exact h
        | 12, h => exact h
        | 13, h => exact h
        | 14, h => exact h
        | 15, h => exact h
        | 16, h => exact h
        | _ + 17, _ => exact trivial
      case main =>
        simp only [List.take_succ_cons, List.take_zero, List.drop_succ_cons, List.drop_zero]
        repeat (refine sqw_quiet rfl rfl (ExtB.refl _) ?_; go_big_quiet_step (fail); refine wpQuiet_nil ?_)
        refine sqw_postY rfl rfl rfl ?_ ?_
        · intro W1 hb hf
          have cx : W1.cell? ⟨f.p, 2, none⟩ = some (.map (some f.wb)) := (hB2.below (ExtB.undrew hb) hB2.lt).cell rfl
          refine yields_value (v := .map (some f.wb)) (w' := W1) ?_ ⟨rfl, ExtB.refl _⟩
          go_simp
        intro v Wj hv
        obtain rfl : v = .map (some f.wb) := hv
        simp only [Act.put, List.setIfInBounds_toArray, List.set_cons_zero, List.set_cons_succ]
        repeat (refine sqw_quiet rfl rfl (ExtB.refl _) ?_; go_big_quiet_step (fail); refine wpQuiet_nil ?_)
        refine sqw_postY rfl rfl rfl ?_ ?_
        · intro W1 hb hf
          have hlk := lookW (h2.below (ExtB.undrew hb)) hi2 false
          rw [hw2] at hlk
          refine yields_value (v := .bool false) (w' := W1) ?_ ⟨rfl, ExtB.refl _⟩
          simp only [Bool.false_eq_true, if_false] at hlk
          go_simp
        intro v Wj hv
        obtain rfl : v = .bool false := hv
        simp only [Act.put, List.setIfInBounds_toArray, List.set_cons_zero, List.set_cons_succ]
        repeat (refine sqw_quiet rfl rfl (ExtB.refl _) ?_; go_big_quiet_step (fail); refine wpQuiet_nil ?_)
        refine sqw_postY rfl rfl rfl ?_ ?_
        · intro W1 hb hf
          have hC := (hB0.below (ExtB.undrew hb) hB0.lt).cells0
          exact yields_load rfl hC rfl hTblk rfl (by kernel_rfl) hql' ⟨rfl, ExtB.refl _⟩
        intro v Wj hv
        obtain rfl : v = bval q := hv
        simp only [Act.put, List.setIfInBounds_toArray, List.set_cons_zero, List.set_cons_succ]
        repeat (refine sqw_quiet rfl rfl (ExtB.refl _) ?_; go_big_quiet_step (fail); refine wpQuiet_nil ?_)
        refine sqw_postY rfl rfl rfl ?_ ?_
        · intro W1 hb hf
          have cx : W1.cell? ⟨f.p, 0, none⟩ = some (.slice (some ⟨f.bb, 0, none⟩) d.s.length f.cap) := (hB2.below (ExtB.undrew hb) hB2.lt).cell rfl
          refine yields_value (v := .slice (some ⟨f.bb, 0, none⟩) d.s.length f.cap) (w' := W1) ?_ ⟨rfl, ExtB.refl _⟩
          go_simp
        intro v Wj hv
        obtain rfl : v = .slice (some ⟨f.bb, 0, none⟩) d.s.length f.cap := hv
        simp only [Act.put, List.setIfInBounds_toArray, List.set_cons_zero, List.set_cons_succ]
        repeat (refine sqw_quiet rfl rfl (ExtB.refl _) ?_; go_big_quiet_step (fail); refine wpQuiet_nil ?_)
        refine sqw_postY rfl rfl rfl ?_ ?_
        · intro W1 hb hf
          have hC := hCt W1 (ExtB.undrew hb)
          exact yields_load rfl hC rfl hTblk rfl (by kernel_rfl) htl' ⟨rfl, ExtB.refl _⟩
        intro v Wj hv
        obtain rfl : v = bval t0 := hv
        simp only [Act.put, List.setIfInBounds_toArray, List.set_cons_zero, List.set_cons_succ]
        repeat (refine sqw_quiet rfl rfl (ExtB.refl _) ?_; go_big_quiet_step (fail); refine wpQuiet_nil ?_)
        refine sqw_postY rfl rfl rfl ?_ ?_
        · intro W1 hb hf
          refine yields_value (v := .bool true) (w' := W1) ?_ ⟨rfl, ExtB.refl _⟩
          rw [← hqt']
          exact neqBlk_exec rfl rfl rfl hql htl W1
        intro v Wj hv
        obtain rfl : v = .bool true := hv
        simp only [Act.put, List.setIfInBounds_toArray, List.set_cons_zero, List.set_cons_succ]
        repeat (refine sqw_quiet rfl rfl (ExtB.refl _) ?_; go_big_quiet_step (fail); refine wpQuiet_nil ?_)
        refine sqw_nil ?_
        intro w7 hb _
        have hb7 := ExtB.undrew hb
        have h7 := h2.below hb7
        refine wpList_nil ?_
        obtain ⟨l7, hB7, _⟩ := h7.head
        rw [hlen2] at hB7
        have c0 : w7.cell? ⟨f.p, 0, none⟩ = some (.slice (some ⟨f.bb, 0, none⟩) d.s.length f.cap) := hB7.cell rfl
        have hB07 := hB0.below hb7 hB0.lt
        obtain ⟨c, hc64, hcl, hck⟩ : ∃ c : Nat, c ≤ 64 ∧ clamp p = c ∧ (if 0 < (if 64 < p then 64 else p) then (if 64 < p then 64 else p) else 0) = (c : Int) := by
          refine ⟨clamp p, by unfold clamp; omega, rfl, ?_⟩
          unfold clamp
          split <;> split <;> omega
        have hcI : (c : Int) ≤ 64 := by omega
        have hsl := fun W => sliceH f.bb (n * 64) c hc64 W
        go_wp2
        refine wp_region_tail 11 (by kernel_rfl) (by kernel_rfl) ?_
        simp only [List.take_succ_cons, List.take_zero, List.drop_succ_cons, List.drop_zero]
        repeat (go_big_quiet_step (fail))
        refine wpQuiet_nil ?_
        intro nq
        have hB8 := h7.blocks.drewN nq
        have hfl := flatS_length (sp := f.sp) h7.ok.t
        have hlc : ((q.take c).map byv).length = c := by simp [hql]; omega
        refine wpList_copy_own rfl _ _ _ _ rfl 5 hTb (by kernel_rfl) f.bb (n * 64) c 64 ⟨w.heap.size, 0, none⟩ 64 64 rfl rfl (flatS d2.s f.sp).toArray 86 hB8 ((q.take c).map byv) ?_ ?_ ?_ (bytes_oneCell _) ?_
        · rw [hlc]; exact (Nat.min_eq_right hc64).symm
        · intro j v hj
          have hjc : j < c := by have := (List.getElem?_eq_some_iff.1 hj).1; omega
          have hC := (hB07.drewN nq).cells0
          rw [Addr.add_lit]
          refine hC j v ?_
          rw [← hj]
          rw [List.map_take, List.getElem?_take_of_lt hjc]
        · rw [hlc]; simp only [List.size_toArray]; omega
        rw [hlc]
        obtain ⟨W9, HW9⟩ : ∃ W9, W9 = (w7.drewN nq).setRow f.bb ((flatS d2.s f.sp).toArray.toList.take (n * 64) ++ ((q.take c).map byv ++ (flatS d2.s f.sp).toArray.toList.drop (n * 64 + c))).toArray := ⟨_, rfl⟩
        have hB9 : Blk W9 f.bb ((flatS d2.s f.sp).take (n * 64) ++ (q.take c ++ t0.drop c).map byv ++ (flatS d2.s f.sp).drop (n * 64 + 64)) 86 := by
          rw [HW9]
          have e : (flatS d2.s f.sp).toArray.toList.take (n * 64) ++ ((q.take c).map byv ++ (flatS d2.s f.sp).toArray.toList.drop (n * 64 + c)) = (flatS d2.s f.sp).take (n * 64) ++ (q.take c ++ t0.drop c).map byv ++ (flatS d2.s f.sp).drop (n * 64 + 64) := by
            have e1 : (flatS d2.s f.sp).drop (n * 64 + c) = (t0.drop c).map byv ++ (flatS d2.s f.sp).drop (n * 64 + 64) := by
              have h64 : ((flatS d2.s f.sp).drop (n * 64)).take 64 = t0.map byv := by
                rw [flatS_at h2.ok.t (by omega)]
                have : d2.s.getD n default = sec d2 n := rfl
                rw [this, hs2, HT0.out]
              have h65 : (flatS d2.s f.sp).drop (n * 64) = t0.map byv ++ (flatS d2.s f.sp).drop (n * 64 + 64) := by
                rw [← h64, ← List.drop_drop, List.take_append_drop]
              rw [← List.drop_drop, h65, List.drop_append_of_le_length (by rw [htl']; exact hc64), List.map_drop]
            simp only [e1, List.map_append, List.append_assoc]
          rw [e]
          exact blk_setRow hB8
        have hc9 : Chg [f.bb] w7 W9 := by
          rw [HW9]
          exact ((Chg.refl _ _).drewN nq).trans (.of_oth oth_setRow (by simp))
        rw [← HW9]
        clear HW9
        have h9 := h7.text hi2 (t := q.take c ++ t0.drop c) (by rw [List.length_append, List.length_take, List.length_drop, hql, htl]; omega) hB9 hc9
        have e : upd d n (settle1 p) = upd d2 n fun x => { x with t := q.take c ++ t0.drop c } := by
          rw [hd2, upd_upd]
          refine upd_congr hi ?_
          have hw' : (sec d n).w = false := by simpa using hw
          simp [settle1, hq, hw', HT0.out, hcl]
        rw [← e] at h9
        clear e hd2
        have hfin := (hchg.trans (.of_below hb7)).trans (hc9.mono (F' := f.all) (by simp [Ft.all]))
        go_wp2
        all_goals
          refine bodyPost_end (results_none rfl _ _ _) rfl ?_
          exact ⟨rfl, h9, hfin⟩
end Go.Proofs.YtbmnbdkbgpajeaaGreatDoor
end
/- Wear and Rot of the program's disk. -/
section
namespace Go.Proofs.YtbmnbdkbgpajeaaGreatDoor
open Go.RowKit Go.Own Go.Disk Go.BigFrame
attribute [local go_sem] setCell_twice str_size
attribute [local irreducible] SqW
theorem PD.wear {w w' : World} {f : Ft} {d : DS} (h : PD w f d) {i : Int} (hi : inR d i = true) {m : List (Int × Value)} (hg : ∀ k, mget m k = if inR d k && (sec d k).w then some (.bool true) else none)
    (hm : IMap w' f.wb (mset m i (.bool true))) (hc : Chg [f.wb] w w') : PD w' f (upd d i fun x => { x with w := true }) := by
  obtain ⟨hft, ⟨l, h1, h2⟩, h3, ⟨m', h4, h5⟩, _, h8, h9⟩ := h
  refine ⟨by simpa [upd] using hft, ⟨l, ?_, h2⟩, ?_, ⟨m', h4.chg hc (by simp; exact h9.2.2.2.2.2), fun k => ?_⟩, ⟨_, hm, fun k => ?_⟩, h8.upd _ _ fun x hx hp => ⟨hx, hp⟩, h9⟩
  · have e : (upd d i fun x => { x with w := true }).s.length = d.s.length := by simp [upd]
    rw [e]; exact h1.chg hc (by simp; exact h9.2.2.1)
  · have e : flatS (upd d i fun x => { x with w := true }).s f.sp = flatS d.s f.sp := by
      unfold flatS flat upd
      congr 1
      rw [List.flatMap_def, List.flatMap_def]
      congr 1
      apply List.ext_getElem?
      intro j
      simp only [List.getElem?_map, List.getElem?_modify]
      cases d.s[j]? with
      | none => rfl
      | some x => by_cases e : i.toNat = j <;> simp [e]
    rw [e]; exact h3.chg hc (by simp; exact h9.2.2.2.2.1)
  · rw [h5, inR_upd]
    by_cases hk : inR d k = true
    · rw [if_pos hk, if_pos hk, sec_upd d _ hi hk]
      by_cases e : k = i
      · subst e; rw [if_pos rfl]
      · rw [if_neg e]
    · rw [if_neg hk, if_neg hk]
  · rw [mget_mset, inR_upd]
    by_cases e : k = i
    · subst e; rw [if_pos rfl, sec_upd d _ hi hi, if_pos rfl, hi]; rfl
    · rw [if_neg e, hg]
      by_cases hk : inR d k = true
      · rw [sec_upd d _ hi hk, if_neg e]
      · simp [hk]
theorem wear_any (f : Ft) (d : DS) (i : Int) (w : World) (h : PD w f d) : Calls Tryz.prog 34 #[.pointer (some ⟨f.p, 0, none⟩), .int .i64 i] w fun e w' => e = .returned (.int .i64 (awear d i).1) ∧ PD w' f (awear d i).2 ∧ Chg f.all w w' := by
  obtain ⟨l, hB, _⟩ := h.head
  obtain ⟨m, hmm, hmg⟩ := h.worn
  have c0 : w.cell? ⟨f.p, 0, none⟩ = some (.slice (some ⟨f.bb, 0, none⟩) d.s.length f.cap) := hB.cell rfl
  have c2 : w.cell? ⟨f.p, 2, none⟩ = some (.map (some f.wb)) := hB.cell rfl
  go_enter Tryz.func34, Tryz.ntmps34
  by_cases h0 : i < 0
  · have e : awear d i = (1, d) := by simp [awear, inR, show ¬ 0 ≤ i by omega]
    go_wp2
    go_ret
    exact ⟨by first | rfl | simp [e], by first | exact h | (rw [e]; exact h), Chg.refl _ _⟩
  · by_cases h1 : (d.s.length : Int) ≤ i
    · have e : awear d i = (1, d) := by simp [awear, inR, show ¬ i < (d.s.length : Int) by omega]
      go_wp2
      go_ret
      exact ⟨by first | rfl | simp [e], by first | exact h | (rw [e]; exact h), Chg.refl _ _⟩
    · have hi : inR d i = true := by simp [inR, show 0 ≤ i by omega, show i < (d.s.length : Int) by omega]
      have e : awear d i = (0, upd d i fun x => { x with w := true }) := by simp [awear, hi]
      have h1' : i < (d.s.length : Int) := by omega
      go_wp2_with (refine wpList_mapUpdate_imap (k := i) (v := .bool true) hmm rfl rfl rfl rfl rfl rfl hTw hKp ?_)
      intro w8 hm8 hc8 _
      have hP := h.wear hi hmg hm8 hc8
      clear hi
      go_wp2
      go_ret
      rw [e]
      exact ⟨rfl, hP, hc8.mono (by simp [Ft.all])⟩
end Go.Proofs.YtbmnbdkbgpajeaaGreatDoor
end
