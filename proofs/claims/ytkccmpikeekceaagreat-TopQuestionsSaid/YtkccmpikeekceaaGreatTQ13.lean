/- top: the program's Best. -/
import Derived.Test.YtkccmpikeekceaaGreatTQ12
import Derived.Calls
import Derived.Orders
/- top: the program's Best. -/
section
namespace Go.Proofs.YtkccmpikeekceaaGreat
open Go.RowKit Go.Own Go.Theory Go.BigFrame Go.Shelf Go.Top
theorem of_any {V : World} {ws cs : List Nat} {sa : Option Addr} {ca : Nat} {sb : Option Addr} {cb gw gc K gk gb : Nat} (S : BdS V ws cs sa ca sb cb gw gc K gk gb) :
    ∀ (k m : Nat), (elsN ws.length m).length ≤ k → m < 2 ^ ws.length → m ≠ 0 → ∀ w : World, BdW V w ws cs gw gc K gk gb → Calls Tryz.prog 24 #[.int .i64 (m : Int), nd gk, nd gw, nd gc, nd gb] w fun e w' => BdQ V ws cs gw gc K gk gb m w e w' := by
  intro k
  induction k with
  | zero =>
    intro m hk hm hm0
    exfalso
    have h := mask_els hm
    rw [List.eq_nil_of_length_eq_zero (by omega : (elsN ws.length m).length = 0)] at h
    exact hm0 h.symm
  | succ k ih =>
    intro m hk hm hm0 w hw
    obtain ⟨f, hf, hfp⟩ := hw.kn
    cases hv : f (m : Int) with
    | some v =>
      obtain ⟨S', t, c, b, e1, e2, e3, e4⟩ := hfp _ _ hv
      have : S' = m := by omega
      subst this
      subst e3
      exact of_met S S' w hw f hf t c b e2 e4 hv
    | none => exact of_new S m hm hm0 (fun m' h1 h2 h3 u hu => ih m' (by omega) h1 h2 u hu) w hw f hf hv
theorem mk_known (u : World) : (Instr.makeMap 79 none).run Tryz.prog u = .ok (.map (some u.heap.size)) (u.alloc (.map #[] 0)) := by
  simp [Instr.makeMap, Result.andThen]
set_option maxRecDepth 100000 in
theorem best_big (ws cs : List Nat) (sa sb : Option Addr) (ca cb : Nat) (h : 8 < ws.length) (hm : ws.length ≤ 1000000) (w : World) :
    Calls Tryz.prog 7 #[.slice sa ws.length ca, .slice sb cs.length cb] w fun e w' => e = .returned (.tuple #[.pointer none, .int .i64 0, .int .i64 4]) ∧ Below w.heap.size w w' := by
  have hp := proper_big ws cs sa sb ca cb h hm
  have HP := Lib.hid hp; clear hp
  go_enter Tryz.func7, Tryz.ntmps7
  go_wp2_with (fail)
  refine (HP.out _).mono ?_
  rintro e w2 ⟨rfl, h2⟩
  have h3 := h2.symm; clear h2; subst h3
  go_wp2
  go_ret3
  exact ⟨rfl, (alloc_below _ _).trans ((alloc_below _ _).mono (by simp))⟩
theorem agg2 {a b : Nat} {x y : Int} (h : Value.agg #[nd a, .int .i64 x] = .agg #[nd b, .int .i64 y]) : b = a ∧ y = x := by
  injection h with h
  have := congrArg Array.toList h
  simp only [List.cons.injEq, Value.int.injEq, true_and, and_true] at this
  exact ⟨nd_inj this.1, this.2.symm⟩
attribute [local irreducible] SqW
attribute [local go_sem high] run_store_func
set_option maxRecDepth 100000 in
set_option maxHeartbeats 6400000 in
theorem best_any (ws cs : List Nat) (sa sb : Option Addr) (ca cb : Nat) (hp : Proper ws cs) (w : World) (h1 : Sl w 1 (.slice sa ws.length ca) ws.length (nvs ws)) (h2 : Sl w 1 (.slice sb cs.length cb) cs.length (nvs cs)) :
    Calls Tryz.prog 7 #[.slice sa ws.length ca, .slice sb cs.length cb] w fun e w' => ∃ (t : Tr) (c b : Nat), BQ ws cs (List.range ws.length) = some (t, c) ∧ e = .returned (.tuple #[nd b, .int .i64 (c : Int), .int .i64 0]) ∧ TrAt tT w' (nd b) t ∧ Below w.heap.size w w' := by
  obtain ⟨W1, hW1⟩ : ∃ W1, W1 = w.alloc (.cells #[.slice sa ws.length ca] 24) := ⟨_, rfl⟩
  obtain ⟨W2, hW2⟩ : ∃ W2, W2 = W1.alloc (.cells #[.slice sb cs.length cb] 22) := ⟨_, rfl⟩
  have z1 : W1.heap.size = w.heap.size + 1 := by rw [hW1]; exact alloc_size _ _
  have z2 : W2.heap.size = w.heap.size + 1 + 1 := by rw [hW2, alloc_size, z1]
  have b1 : Below w.heap.size w W1 := by rw [hW1]; exact alloc_below _ _
  have b12 : Below W1.heap.size W1 W2 := by rw [hW2]; exact alloc_below _ _
  have b2 : Below w.heap.size w W2 := b1.trans (b12.mono b1.size)
  have k1 : Blk W1 w.heap.size [.slice sa ws.length ca] 24 := by rw [hW1]; exact Blk.new w #[.slice sa ws.length ca] 24
  have k2 : Blk W2 w.heap.size [.slice sa ws.length ca] 24 := k1.below b12 k1.lt
  have k3 : Blk W2 (w.heap.size + 1) [.slice sb cs.length cb] 22 := by
    have : Blk W2 W1.heap.size [.slice sb cs.length cb] 22 := by rw [hW2]; exact Blk.new W1 #[.slice sb cs.length cb] 22
    rwa [z1] at this
  have c2 : W2.cell? ⟨w.heap.size, 0, none⟩ = some (.slice sa ws.length ca) := k2.cell rfl
  have c3 : W2.cell? ⟨w.heap.size + 1, 0, none⟩ = some (.slice sb cs.length cb) := k3.cell rfl
  have hpr := proper_ok ws cs sa sb ca cb hp W2 (h1.below b2) (h2.below b2)
  have hm8 := hp.most
  have ho1 := hp.one
  have HPR := Lib.hid hpr; clear hpr
  have HP := Lib.hid hp; clear hp
  have H1 := Lib.hid h1; clear h1
  have H2 := Lib.hid h2; clear h2
  have K2 := Lib.hid k2; clear k2 k1
  have K3 := Lib.hid k3; clear k3
  have HB2 := Lib.hid b2; clear b2 b1 b12
  have HZ2 := Lib.hid z2; clear z1 z2
  rw [hW2, hW1] at c2 c3
  have HW2 := Lib.hid hW2; clear hW2
  have HW1 := Lib.hid hW1; clear hW1
  go_enter Tryz.func7, Tryz.ntmps7
  go_wp2_with (fail)
  rw [← HW1.out, ← HW2.out]
  refine HPR.out.mono ?_
  rintro e V ⟨rfl, hb3⟩
  have bV : Below w.heap.size w V := HB2.out.trans (hb3.mono HB2.out.size)
  have kw := K2.out.below hb3 K2.out.lt
  have kc := K3.out.below hb3 K3.out.lt
  have cw : V.cell? ⟨w.heap.size, 0, none⟩ = some (.slice sa ws.length ca) := kw.cell rfl
  have hmk := mk_known V
  clear c2 c3
  obtain ⟨U1, hU1⟩ : ∃ U1, U1 = V.alloc (.map #[] 0) := ⟨_, rfl⟩
  obtain ⟨U2, hU2⟩ : ∃ U2, U2 = U1.alloc (.cells #[.map (some V.heap.size)] 79) := ⟨_, rfl⟩
  obtain ⟨U3, hU3⟩ : ∃ U3, U3 = U2.alloc (.cells #[.func (.func 24) #[] #[.pointer (some ⟨V.heap.size + 1, 0, none⟩), .pointer (some ⟨w.heap.size, 0, none⟩), .pointer (some ⟨w.heap.size + 1, 0, none⟩), .pointer (some ⟨V.heap.size + 1 + 1, 0, none⟩)]] 80) := ⟨_, rfl⟩
  have y1 : U1.heap.size = V.heap.size + 1 := by rw [hU1, alloc_size]
  have y2 : U2.heap.size = V.heap.size + 1 + 1 := by rw [hU2, alloc_size, y1]
  have y3 : U3.heap.size = V.heap.size + 1 + 1 + 1 := by rw [hU3, alloc_size, y2]
  have e1 : Below V.heap.size V U1 := by rw [hU1]; exact alloc_below _ _
  have e2 : Below U1.heap.size U1 U2 := by rw [hU2]; exact alloc_below _ _
  have e3 : Below U2.heap.size U2 U3 := by rw [hU3]; exact alloc_below _ _
  have e13 : Below U1.heap.size U1 U3 := e2.trans (e3.mono e2.size)
  have eV : Below V.heap.size V U3 := e1.trans (e13.mono e1.size)
  have kn : KnM U3 V.heap.size ws cs := by
    have h : KnM U1 V.heap.size ws cs := ⟨_, by rw [hU1]; exact MapV.new V, fun k v hv => by cases hv⟩
    exact h.below e13
  have kk : U3.cell? ⟨V.heap.size + 1, 0, none⟩ = some (.map (some V.heap.size)) := by
    have : Blk U2 U1.heap.size [.map (some V.heap.size)] 79 := by rw [hU2]; exact Blk.new U1 #[.map (some V.heap.size)] 79
    rw [y1] at this
    exact (this.below e3 (by omega)).cell rfl
  have kb : U3.cell? ⟨V.heap.size + 1 + 1, 0, none⟩ = some (bdv (V.heap.size + 1) w.heap.size (w.heap.size + 1) (V.heap.size + 1 + 1)) := by
    have : Blk U3 U2.heap.size [bdv (V.heap.size + 1) w.heap.size (w.heap.size + 1) (V.heap.size + 1 + 1)] 80 := by rw [hU3]; exact Blk.new U2 #[bdv (V.heap.size + 1) w.heap.size (w.heap.size + 1) (V.heap.size + 1 + 1)] 80
    rw [y2] at this
    exact this.cell rfl
  have hS : BdS V ws cs sa ca sb cb w.heap.size (w.heap.size + 1) V.heap.size (V.heap.size + 1) (V.heap.size + 1 + 1) :=
    ⟨H1.out.below bV, H2.out.below bV, cw, kc.cell rfl, Nat.le_refl _, by omega, by omega, by omega, by omega, HP.out⟩
  have hW : BdW V U3 ws cs w.heap.size (w.heap.size + 1) V.heap.size (V.heap.size + 1) (V.heap.size + 1 + 1) := ⟨eV, kk, kb, kn⟩
  have hwp := wrap_pow (n := ws.length) (by omega)
  have hM1 : 1 ≤ 2 ^ ws.length := Nat.one_le_two_pow
  have hM256 : 2 ^ ws.length ≤ 256 := Nat.pow_le_pow_right (n := 2) (by omega) hm8
  have hel := els_range ws.length
  have hmm : 2 ^ ws.length - 1 ≠ 0 := by
    have : 2 ^ 1 ≤ 2 ^ ws.length := Nat.pow_le_pow_right (n := 2) (by omega) ho1
    omega
  have hof := fun u hu => of_any hS 8 (2 ^ ws.length - 1) (Nat.le_trans (els_len _ _) hm8) (by omega) hmm u hu
  have hof : ∀ u : World, BdW V u ws cs w.heap.size (w.heap.size + 1) V.heap.size (V.heap.size + 1) (V.heap.size + 1 + 1) → Calls Tryz.prog 24 #[.int .i64 ((2 ^ ws.length - 1 : Nat) : Int), nd (V.heap.size + 1), nd w.heap.size, nd (w.heap.size + 1), nd (V.heap.size + 1 + 1)] u fun e w' => ∃ (t : Tr) (c b : Nat), e = .returned (.agg #[nd b, .int .i64 (c : Int)]) ∧ BQ ws cs (List.range ws.length) = some (t, c) ∧ TrAt tT w' (nd b) t ∧ KnM w' V.heap.size ws cs ∧ ExtK V.heap.size ws cs u w' := fun u hu => by
    refine (hof u hu).mono ?_
    rintro e w' ⟨⟨t, c, b, q1, q2, q3⟩, q4, q5⟩
    rw [hel] at q1
    exact ⟨t, c, b, q2, q1, q3, q5.kn, q4⟩
  obtain ⟨mm, hmmd⟩ : ∃ mm, mm = 2 ^ ws.length - 1 := ⟨_, rfl⟩
  obtain ⟨M, hM⟩ : ∃ M, M = 2 ^ ws.length := ⟨_, rfl⟩
  rw [← hmmd] at hof
  rw [← hM] at hwp hmmd hM1 hM256
  have hsub : (M : Int) - 1 = (mm : Int) := by omega
  clear hel hmm hM hmmd
  have HOF := Lib.hid hof; clear hof
  have HS := Lib.hid hS; clear hS
  have HBW := Lib.hid hW; clear hW kn kk kb
  have BVU := Lib.hid eV; clear eV e13 e1 e2 e3
  have HY3 := Lib.hid y3; clear y1 y2 y3
  have BV := Lib.hid bV; clear bV hb3
  have KW := Lib.hid kw; clear kw kc
  have HU1 := Lib.hid hU1; clear hU1
  have HU2 := Lib.hid hU2; clear hU2
  have HU3 := Lib.hid hU3; clear hU3
  go_wp2
  clear hmk cw
  rw [← HU1.out, ← HU2.out, ← HU3.out]
  have HBD := Lib.hid (HBW.out.low ((Below.refl U3.heap.size U3).drew))
  have HKL : Hid (V.heap.size < U3.drew.heap.size) := Lib.hid (by show V.heap.size < U3.heap.size; rw [HY3.out]; omega)
  refine wp_region_sq 7 [0, 1, 5, 6] (ExtK V.heap.size ws cs) (fun i v W => match i with
    | 0 => v = bdv (V.heap.size + 1) w.heap.size (w.heap.size + 1) (V.heap.size + 1 + 1)
    | 1 => v = .slice sa ws.length ca
    | 5 => ∃ (t : Tr) (c b : Nat), v = .agg #[nd b, .int .i64 (c : Int)] ∧ BQ ws cs (List.range ws.length) = some (t, c) ∧ TrAt tT W (nd b) t ∧ KnM W V.heap.size ws cs
    | 6 => ∃ r, v = nd r ∧ Blk W r [.pointer none, .int .i64 0] tP ∧ V.heap.size < r
    | _ => True) (by kernel_rfl) (by kernel_rfl) (ExtK.refl _ _ _) (ExtK.trans _ _ _) ?stable ?main
  case stable =>
    intro i v W W' h hx
    match i, h with
    | 0, h => exact h
    | 1, h => exact h
    | 2, h => exact h
    | 3, h => exact h
    | 4, h => exact h
    | 5, h => exact (by obtain ⟨t, c, b, q1, q2, q3, q4⟩ := h; exact ⟨t, c, b, q1, q2, hx.tr q4 q3, hx.kn q4⟩)
    | 6, h => exact (by obtain ⟨r, q1, q2, q3⟩ := h; exact ⟨r, q1, q2.chg hx.chg (by simp; omega), q3⟩)
    | _ + 7, _ => exact trivial
  case main =>
    simp only [List.take_succ_cons, List.take_zero, List.drop_succ_cons, List.drop_zero]
    obtain ⟨wd, hwd⟩ : ∃ wd : World, wd = U3.drew := ⟨_, rfl⟩
    rw [← hwd] at HBD HKL ⊢
    have BVD : Hid (Below V.heap.size V wd) := Lib.hid (by rw [hwd]; exact BVU.out.drew)
    clear hwd
    haveI : Nonempty (Grown (ExtK V.heap.size ws cs) wd) := ⟨⟨wd, ExtK.refl _ _ _ _⟩⟩
    refine sqw_postY rfl rfl rfl ?_ ?_
    · intro W1 hx hf
      have cx := (HBD.out.ext HS.out hx).cb
      refine yields_value (v := bdv (V.heap.size + 1) w.heap.size (w.heap.size + 1) (V.heap.size + 1 + 1)) (w' := W1) ?_ ⟨rfl, ExtK.refl _ _ _ _⟩
      go_simp
    intro v Wj hv
    obtain rfl : v = bdv (V.heap.size + 1) w.heap.size (w.heap.size + 1) (V.heap.size + 1 + 1) := hv
    simp only [Act.put, List.setIfInBounds_toArray, List.set_cons_zero, List.set_cons_succ]
    refine sqw_postY rfl rfl rfl ?_ ?_
    · intro W1 hx hf
      have hb := (HBD.out.ext HS.out hx).below
      have cx := (hb.cell (p := ⟨w.heap.size, 0, none⟩) (World.block_lt_of_cell? _ _ HS.out.cw)).trans HS.out.cw
      refine yields_value (v := .slice sa ws.length ca) (w' := W1) ?_ ⟨rfl, ExtK.refl _ _ _ _⟩
      go_simp
    intro v Wj hv
    obtain rfl : v = .slice sa ws.length ca := hv
    simp only [Act.put, List.setIfInBounds_toArray, List.set_cons_zero, List.set_cons_succ]
    iterate 3 (refine sqw_quiet rfl rfl (ExtK.refl _ _ _ _) ?_; go_big_quiet_step (fail); refine wpQuiet_nil ?_)
    refine sqw_postY rfl rfl rfl ?_ ?_
    · intro W1 hx hf
      refine yields_closure (f := 24) (lb := #[nd (V.heap.size + 1), nd w.heap.size, nd (w.heap.size + 1), nd (V.heap.size + 1 + 1)]) (args := #[.int .i64 (mm : Int)]) rfl (by kernel_rfl) rfl rfl ((HOF.out W1 (HBD.out.ext HS.out hx)).mono ?_)
      rintro e u1 ⟨t, c, b, rfl, q1, q2, q3, q4⟩
      exact ⟨_, rfl, ⟨t, c, b, rfl, q1, q2, q3⟩, q4⟩
    intro v Wj hv
    obtain ⟨t, c, b, rfl, hbq, -, -⟩ := hv
    simp only [Act.put, List.setIfInBounds_toArray, List.set_cons_zero, List.set_cons_succ]
    refine sqw_postY rfl rfl rfl ?_ ?_
    · intro W1 hx hf
      have hz : V.heap.size < W1.heap.size := Nat.lt_of_lt_of_le HKL.out hx.chg.size
      refine yields_value (v := nd W1.heap.size) (w' := W1.alloc (.cells #[.pointer none, .int .i64 0] tP)) ?_ ⟨⟨W1.heap.size, rfl, Blk.new W1 #[.pointer none, .int .i64 0] tP, hz⟩, ExtK.of (alloc_below W1 _)⟩
      go_simp
    intro v Wj hv
    obtain ⟨r, rfl, -, -⟩ := hv
    simp only [Act.put, List.setIfInBounds_toArray, List.set_cons_zero, List.set_cons_succ]
    refine sqw_nil' ?_
    intro w7 hx hf
    obtain ⟨t', c', b', q1, q2, hT7, hk7⟩ : ∃ (t : Tr) (c' b' : Nat), Value.agg #[nd b, .int .i64 (c : Int)] = .agg #[nd b', .int .i64 (c' : Int)] ∧ BQ ws cs (List.range ws.length) = some (t, c') ∧ TrAt tT w7 (nd b') t ∧ KnM w7 V.heap.size ws cs := hf 5 24 (by decide) (by kernel_rfl) rfl (fun o h => by obtain rfl := Option.some.inj h; rfl)
    obtain ⟨r', e6, hR7, hr7⟩ : ∃ r', nd r = nd r' ∧ Blk w7 r' [.pointer none, .int .i64 0] tP ∧ V.heap.size < r' := hf 6 10 (by decide) (by kernel_rfl) rfl (fun o h => by obtain rfl := Option.some.inj h; rfl)
    obtain rfl := nd_inj e6
    obtain ⟨rfl, ec⟩ := agg2 q1
    obtain rfl : c' = c := by omega
    clear hf q1 ec hbq e6
    have bV7 : Below V.heap.size V w7 := BVD.out.trans (hx.chg.below BVD.out.size (by simp))
    have HT7 := Lib.hid hT7; clear hT7
    have HR7 := Lib.hid hR7; clear hR7
    have HQ2 := Lib.hid q2; clear q2
    clear hx hk7
    refine wpList_store_blk (ty := tP) (n := 2) (vs := [nd b', .int .i64 (c' : Int)]) HR7.out rfl rfl rfl rfl rfl infoP rfl (by simp) (by intro u hu; simp at hu; rcases hu with hu | hu <;> (subst hu; rfl)) ?_
    intro w8 s1 s2
    have s1' : Blk w8 r' [nd b', .int .i64 (c' : Int)] tP := s1
    have HT8 := Lib.hid (tr_oth HR7.out rfl s2 HT7.out)
    have HB8 : Hid (Below w.heap.size w w8) := Lib.hid (BV.out.trans ((bV7.trans ((Chg.of_oth s2 (F := [r']) (by simp)).below bV7.size (by simp; omega))).mono BV.out.size))
    have d0 := s1'.cell (i := 0) rfl
    have d1 := s1'.cell (i := 1) rfl
    clear s1 s1' s2 bV7
    go_wp2
    refine wp_region_quiet_lit (by kernel_rfl) (by kernel_rfl) ?_
    repeat (go_big_quiet_step (rfl))
    refine wpQuiet_nil ?_
    rintro _ ⟨nq, rfl⟩
    go_wp2
    go_ret3
    exact ⟨t', c', b', HQ2.out, rfl, HT8.out.below (below_drewN (Below.refl w8.heap.size w8) nq), below_drewN HB8.out nq⟩
end Go.Proofs.YtkccmpikeekceaaGreat
end
/- ev: an evaluator of the model's code on abstract memory: definitions. No program. -/
section
namespace Go.Ev
/-- A cell. -/
inductive C where
  | i (k : IntKind) (n : Int)
  | b (x : Bool)
  | ns
  | dig (n : Nat)
  | dptr (n : Nat)
  | ptr (b off : Nat)
  | sl (b off len cap u : Nat)
  | fn (f : FuncId) (caps : List (Nat × Nat))
  | v (x : Value)
  deriving Inhabited
/-- A value: of one cell, of several cells, or of several values. -/
inductive V where
  | c (x : C)
  | agg (l : List C)
  deriving Inhabited
inductive A where
  | v (x : V)
  | tup (l : List V)
  deriving Inhabited
def C.ofV : Value → Option C
  | .int k n => some (.i k n)
  | .bool x => some (.b x)
  | .slice none 0 0 => some .ns
  | .func (.func f) p q => if p.size = 0 ∧ q.size = 0 then some (.fn f []) else some (.v (.func (.func f) p q))
  | .agg _ => none
  | .tuple _ => none
  | x => some (.v x)
def ofL : List Value → Option (List C)
  | [] => some []
  | x :: l => match C.ofV x, ofL l with | some c, some r => some (c :: r) | _, _ => none
def V.ofV : Value → Option V
  | .agg cs => match ofL cs.toList with | some l => some (.agg l) | none => none
  | x => match C.ofV x with | some z => some (.c z) | none => none
/-- The value of a cell that names no memory of the evaluator's. -/
def C.plain : C → Option Value
  | .i k n => some (.int k n)
  | .b x => some (.bool x)
  | .ns => some (.slice none 0 0)
  | .dig 0 => some (.slice none 0 0)
  | .fn f [] => some (.func (.func f) #[] #[])
  | .v x => some x
  | _ => none
def plainL : List C → Option (List Value)
  | [] => some []
  | x :: l => match x.plain with | some v => (match plainL l with | some r => some (v :: r) | none => none) | none => none
def V.plain : V → Option Value
  | .c x => x.plain
  | .agg l => (plainL l).map fun r => .agg r.toArray
def A.plain : A → Option Value
  | .v x => x.plain
  | .tup _ => none
def V.cells : V → List C
  | .c x => [x]
  | .agg l => l
/-! memory: a tree over numbers -/
inductive Tr (α : Type) where
  | e
  | n (l : Tr α) (x : Option α) (r : Tr α)
  deriving Inhabited
noncomputable def Tr.get {α : Type} (t : Tr α) : Nat → Option α :=
  Tr.rec (motive := fun _ => Nat → Option α) (fun _ => none) (fun _ x _ gl gr k => Bool.rec (Bool.rec (gr (Nat.div k 2)) (gl (Nat.sub (Nat.div k 2) 1)) (Nat.beq (Nat.mod k 2) 0)) x (Nat.beq k 0)) t
noncomputable def Tr.up {α : Type} (ih : Tr α → Nat → Option α → Tr α) (l : Tr α) (y : Option α) (r : Tr α) (k : Nat) (x : Option α) : Tr α :=
  Bool.rec (Bool.rec (.n l y (ih r (Nat.div k 2) x)) (.n (ih l (Nat.sub (Nat.div k 2) 1) x) y r) (Nat.beq (Nat.mod k 2) 0)) (.n l x r) (Nat.beq k 0)
noncomputable def Tr.set {α : Type} (f : Nat) : Tr α → Nat → Option α → Tr α :=
  Nat.rec (motive := fun _ => Tr α → Nat → Option α → Tr α) (fun _ _ _ => .e) (fun _ ih t k x =>
    Tr.rec (motive := fun _ => Tr α) (Tr.up ih .e none .e k x) (fun l y r _ _ => Tr.up ih l y r k x) t) f
def depth : Nat := 40
/-- Abstract memory: the blocks, the next free name, the names below it that were turned. -/
structure S where
  H : Tr (List C)
  nx : Nat
  lg : List Nat
  deriving Inhabited
noncomputable def S.new (s : S) (l : List C) : S := { H := s.H.set depth s.nx (some l), nx := s.nx + 1, lg := s.lg }
noncomputable def S.put (s : S) (b : Nat) (l : List C) : S := { H := s.H.set depth b (some l), nx := s.nx, lg := b :: s.lg }
noncomputable def S.drop (s : S) (b : Nat) : S := { H := s.H.set depth b none, nx := s.nx, lg := b :: s.lg }
/-- What a pure piece of the model's code yields. -/
def pureP {α : Type} (P : Program) : Sem α → Option α
  | .pure a => some a
  | .program k => pureP P (k P)
  | _ => none
def zeroCells (P : Program) (t : TypeId) : Option (List C) := match P.info? t with
  | some i => match i.zero with
    | some v => ofL v.cells.toList
    | none => none
  | none => none
def sizeOf (P : Program) (t : TypeId) : Option Nat := (P.info? t).map (·.size)
def isAgg (P : Program) (t : TypeId) : Option Bool := (P.underlying t).map fun d => match d with | .struct _ => true | .array _ _ => true | _ => false
def places (P : Program) (fs : Array Field) : Option (List (Nat × Nat)) := fs.toList.mapM fun f => (P.info? f.type).map fun i => (f.offset, i.size)
def setAt {α : Type} (l : List α) (off : Nat) (cs : List α) : List α := l.take off ++ (cs ++ l.drop (off + cs.length))
def takeAt (l : List C) (off n : Nat) : Option (List C) := if off + n ≤ l.length then some ((l.drop off).take n) else none
def vc (x : C) : A := .v (.c x)
def vi (n : Int) : A := vc (.i .i64 n)
def undefA : A := .tup []
def natOf : A → Option Nat
  | .v (.c (.i _ (.ofNat n))) => some n
  | _ => none
noncomputable def firstCellsA (size n : Nat) (x : A) (s : S) : Option (List C) :=
  match x with
  | .v (.c (.sl b off _ _ _)) => if n * size = 0 then some [] else match s.H.get b with | some l => takeAt l off (n * size) | none => none
  | .v (.c .ns) => if n = 0 then some [] else none
  | .v (.c (.dig d)) => if n * size = 0 then some [] else if n = 1 ∧ size = 1 ∧ 0 < d then some [.i .i64 d] else none
  | _ => none
def lenA : A → Option Nat
  | .v (.c (.sl _ _ n _ _)) => some n
  | .v (.c .ns) => some 0
  | .v (.c (.dig n)) => some (if n = 0 then 0 else 1)
  | _ => none
def plainOps (ρ : Operand → Option A) (o : Oper) : Option (List (Operand × Value)) :=
  o.op.operands.toList.foldr (fun x r => match r, (ρ x).bind A.plain with | some l, some v => some ((x, v) :: l) | _, _ => none) (some [])
def plainRho (ρ : Operand → Option A) (x : Operand) : Value := match (ρ x).bind A.plain with | some v => v | none => undef
/-- All operands are plain: the model's own operation, where it is pure. -/
def pureOp (P : Program) (ρ : Operand → Option A) (o : Oper) : Option A :=
  match plainOps ρ o with
  | some _ => match pureP P (execOp (plainRho ρ) o) with
    | some (.value v) => (V.ofV v).map .v
    | _ => none
  | none => none
end Go.Ev
end
/- ev: code made ready (types looked up, operands told apart), and its run. No program. -/
section
namespace Go.Ev
/-- An operand. -/
inductive O where
  | t (k : Nat)
  | k (a : A)
  deriving Inhabited
/-- An operation with its types looked up. -/
inductive I where
  | mv (x : O)
  | pick (z x y : O)
  | new (l : List C)
  | box (x : O)
  | build (z : List C) (ps : List (Nat × Nat × O))
  | lit (z : List C) (len n : Nat) (ps : List (Nat × Nat × O))
  | make (z : List C) (n : Nat) (x y : O)
  | nil (x : O)
  | fa (off : Nat) (x : O)
  | ia (n : Nat) (x j : O)
  | aa (len n : Nat) (x j : O)
  | ix (len n : Nat) (ag : Bool) (x j : O)
  | cut (n : Nat) (x : O) (lo hi mx : Option O)
  | s2a (n : Nat) (x : O)
  | ext (j : Nat) (x : O)
  | mf (f : FuncId) (caps : List O)
  | bin (op : BinOp) (ty : TypeId) (x y : O)
  | eqn (kind : Nat) (x : O) (neg : Bool)
  | len (x : O)
  | gen (o : Oper)
  | ld (ag : Bool) (n : Nat) (x : O)
  | st (n : Nat) (x y : O)
  | app (n : Nat) (x y : O)
  | cpy (n : Nat) (x y : O)
  | clr (z : List C) (x : O)
  | call (f : O) (args : List O)
  deriving Inhabited
structure X where
  op : I
  dst : Option Nat
  grd : Option (Nat × Bool)
  bef : Nat
  deriving Inhabited
inductive XC where
  | skip
  | ret
  | exit (id : Nat)
  | seq (a b : XC)
  | cond (x : O) (a b : XC)
  | block (id : Nat) (a : XC)
  | loop (a : XC)
  | scope (a : XC)
  | reg (l : List X)
  | draw (l : List X)
  | range (f : O) (ps : List Nat) (assign body : XC)
  deriving Inhabited
def XC.noRange : XC → Bool
  | .seq a b => a.noRange && b.noRange
  | .cond _ a b => a.noRange && b.noRange
  | .block _ a => a.noRange
  | .loop a => a.noRange
  | .scope a => a.noRange
  | .range .. => false
  | _ => true
inductive RV where
  | t (k : Nat)
  | cell (k : Nat) (ag : Bool) (n : Nat)
  deriving Inhabited
structure XF where
  body : XC
  res : List RV
  deriving Inhabited
/-! making ready -/
def rdyO : Operand → Option O
  | .tmp t => some (.t t)
  | .const v => (V.ofV v).map fun x => .k (.v x)
  | .func f => some (.k (.v (.c (.fn f []))))
  | .global _ => none
def rdyL : List Operand → Option (List O)
  | [] => some []
  | x :: l => match rdyO x, rdyL l with | some y, some r => some (y :: r) | _, _ => none
def rdyOpt : Option Operand → Option (Option O)
  | none => some none
  | some x => (rdyO x).map some
/-- Parts of a struct, an array, a slice: where, how many cells, what. -/
def rdyP (place : Nat → Option (Nat × Nat)) (size : Nat) : List (Nat × Operand) → Option (List (Nat × Nat × O))
  | [] => some []
  | (i, x) :: l => match place i, rdyO x, rdyP place size l with
    | some (off, n), some y, some r => if off + n ≤ size then some ((off, n, y) :: r) else none
    | _, _, _ => none
def nilKind (P : Program) (t : TypeId) (y : Operand) : Option Nat := match P.underlying t, y with
  | some (.slice _), .const (.slice none 0 0) => some 0
  | some (.pointer _), .const (.pointer none) => some 1
  | some (.func ..), .const .nilFunc => some 2
  | _, _ => none
def rdyEq (P : Program) (op : BinOp) (neg : Bool) (t : TypeId) (x y : Operand) (a b : O) : Option I := match nilKind P t y, nilKind P t x with
  | some k, _ => some (.eqn k a neg)
  | none, some k => some (.eqn k b neg)
  | none, none => some (.bin op t a b)
def rdySlice (P : Program) (t : TypeId) : Option Nat := match P.underlying t with
  | some (.slice elem) => sizeOf P elem
  | _ => none
/-- A slice that grows. -/
def rdyApp (P : Program) (t : TypeId) : Option Nat := match P.underlying t with
  | some (.slice elem) => match sizeOf P elem, zeroCells P elem with
    | some n, some z => if z.length = n ∧ 0 < n ∧ (P.info? elem).map (fun i => decide (i.bytes ≤ 1000000)) = some true then some n else none
    | _, _ => none
  | _ => none
def rdyI (P : Program) (o : Oper) : Option I :=
  match o.op with
  | .move x => (rdyO x).map .mv
  | .assign x => (rdyO x).map .mv
  | .pick c a b => match rdyO c, rdyO a, rdyO b with | some c, some a, some b => some (.pick c a b) | _, _, _ => none
  | .alloc t => (zeroCells P t).map .new
  | .box _ x => (rdyO x).map .box
  | .build t ps => match zeroCells P t, P.underlying t with
    | some z, some (.struct fs) => match places P fs with
      | some pl => (rdyP (fun i => pl[i]?) z.length ps.toList).map fun r => .build z r
      | none => none
    | some z, some (.array _ elem) => match sizeOf P elem with
      | some n => (rdyP (fun i => some (i * n, n)) z.length ps.toList).map fun r => .build z r
      | none => none
    | _, _ => none
  | .buildSlice t len ps => match P.underlying t with
    | some (.slice elem) => match sizeOf P elem, zeroCells P elem with
      | some n, some z => if z.length = n ∧ 0 < n ∧ (0 < len ∨ ps.size = 0) ∧ len * n ≤ 100000 then (rdyP (fun i => some (i * n, n)) (len * n) ps.toList).map fun r => .lit (List.replicate len z).flatten len n r else none
      | _, _ => none
    | _ => none
  | .makeSlice t x y => match P.underlying t with
    | some (.slice elem) => match sizeOf P elem, zeroCells P elem, rdyO x, rdyO y with
      | some n, some z, some x, some y => if z.length = n ∧ 0 < n ∧ (P.info? elem).map (fun i => decide (i.bytes ≤ 1000000)) = some true then some (.make z n x y) else none
      | _, _, _, _ => none
    | _ => none
  | .nilCheck x => (rdyO x).map .nil
  | .fieldAddr t x f => match P.underlying t, rdyO x with
    | some (.struct fs), some x => match fs[f]? with
      | some fd => match sizeOf P fd.type with
        | some (_ + 1) => some (.fa fd.offset x)
        | _ => none
      | none => none
    | _, _ => none
  | .indexAddr t x j => match P.underlying t, rdyO x, rdyO j with
    | some (.slice elem), some x, some j => (sizeOf P elem).map fun n => .ia n x j
    | some (.array len elem), some x, some j => (sizeOf P elem).map fun n => .aa len n x j
    | _, _, _ => none
  | .index t x j => match P.underlying t, rdyO x, rdyO j with
    | some (.array len elem), some x, some j => match sizeOf P elem, isAgg P elem with
      | some n, some ag => some (.ix len n ag x j)
      | _, _ => none
    | some .string, some _, some _ => some (.gen o)
    | _, _, _ => none
  | .slice t x lo hi mx => match rdySlice P t, rdyO x, rdyOpt lo, rdyOpt hi, rdyOpt mx with
    | some n, some x, some lo, some hi, some mx => if mx.isSome && hi.isNone then none else some (.cut n x lo hi mx)
    | _, _, _, _, _ => none
  | .sliceToArrayPointer t x => match P.underlying t, rdyO x with
    | some (.array n _), some x => some (.s2a n x)
    | _, _ => none
  | .extract x j => (rdyO x).map fun x => .ext j x
  | .makeFunc (.func f) first caps => match first.toList, rdyL caps.toList with
    | [], some l => some (.mf f l)
    | _, _ => none
  | .binOp op t x y _ => match rdyO x, rdyO y with
    | some a, some b => match op with
      | .eql => rdyEq P op false t x y a b
      | .neq => rdyEq P op true t x y a b
      | _ => some (.bin op t a b)
    | _, _ => none
  | .load t x => match isAgg P t, sizeOf P t, rdyO x with
    | some ag, some n, some x => some (.ld ag n x)
    | _, _, _ => none
  | .store t x y => match sizeOf P t, rdyO x, rdyO y with
    | some n, some x, some y => some (.st n x y)
    | _, _, _ => none
  | .unOp .. => some (.gen o)
  | .convert .. => some (.gen o)
  | .call { callee := .builtin .len, args, argTypes } => match args.toList, argTypes[0]? with
    | [x], some t => match P.underlying t, rdyO x with
      | some (.slice _), some x => some (.len x)
      | some .string, some _ => some (.gen o)
      | _, _ => none
    | _, _ => none
  | .call { callee := .builtin .min, .. } => some (.gen o)
  | .call { callee := .builtin .max, .. } => some (.gen o)
  | .call { callee := .builtin .append, args, argTypes } => match args.toList, argTypes.toList with
    | [x, y], [t, t'] => match rdyApp P t, rdySlice P t', rdyO x, rdyO y with
      | some n, some _, some x, some y => some (.app n x y)
      | _, _, _, _ => none
    | _, _ => none
  | .call { callee := .builtin .copy, args, argTypes } => match args.toList, argTypes[0]? with
    | [x, y], some t => match rdySlice P t, rdyO x, rdyO y with
      | some n, some x, some y => some (.cpy n x y)
      | _, _, _ => none
    | _, _ => none
  | .call { callee := .builtin .clear, args, argTypes } => match args.toList, argTypes[0]? with
    | [x], some t => match P.underlying t, rdyO x with
      | some (.slice elem), some x => (zeroCells P elem).map fun z => .clr z x
      | _, _ => none
    | _, _ => none
  | .call { callee := .value f, args, .. } => match rdyO f, rdyL args.toList with
    | some f, some l => some (.call f l)
    | _, _ => none
  | _ => none
/-- Operations that look at no memory. -/
def I.quiet : I → Bool
  | .ld .. => false
  | .st .. => false
  | .app .. => false
  | .cpy .. => false
  | .clr .. => false
  | .call .. => false
  | _ => true
def I.write : I → Bool
  | .st .. => true
  | .app .. => true
  | .cpy .. => true
  | .clr .. => true
  | _ => false
def I.isCall : I → Bool
  | .call .. => true
  | _ => false
def O.slot : O → List Nat
  | .t j => [j]
  | .k _ => []
def optSlot : Option O → List Nat
  | some x => x.slot
  | none => []
def I.slots : I → List Nat
  | .mv x => x.slot
  | .pick z x y => z.slot ++ x.slot ++ y.slot
  | .new _ => []
  | .box x => x.slot
  | .build _ ps => ps.flatMap fun p => p.2.2.slot
  | .lit _ _ _ ps => ps.flatMap fun p => p.2.2.slot
  | .make _ _ x y => x.slot ++ y.slot
  | .nil x => x.slot
  | .fa _ x => x.slot
  | .ia _ x j => x.slot ++ j.slot
  | .aa _ _ x j => x.slot ++ j.slot
  | .ix _ _ _ x j => x.slot ++ j.slot
  | .cut _ x lo hi mx => x.slot ++ optSlot lo ++ optSlot hi ++ optSlot mx
  | .s2a _ x => x.slot
  | .ext _ x => x.slot
  | .mf _ l => l.flatMap O.slot
  | .bin _ _ x y => x.slot ++ y.slot
  | .eqn _ x _ => x.slot
  | .len x => x.slot
  | .gen o => o.op.operands.toList.flatMap fun x => match x with | .tmp t => [t] | _ => []
  | .ld _ _ x => x.slot
  | .st _ x y => x.slot ++ y.slot
  | .app _ x y => x.slot ++ y.slot
  | .cpy _ x y => x.slot ++ y.slot
  | .clr _ x => x.slot
  | .call f l => f.slot ++ l.flatMap O.slot
def maskOf (acc : List Nat) (after : List Edge) : Nat := after.foldl (fun s e => if Region.binds .any e then s ||| 2 ^ e.on ||| acc.getD e.on 0 else s) 0
def okX (nt n : Nat) (o : Oper) : Bool := (o.after.toList.all fun e => !Region.binds .any e || decide (e.on < n)) && (match o.dst with | some d => decide (d < nt) | none => true)
/-- `acc`: what goes before each of the operations ahead. -/
def rdyX (P : Program) (nt : Nat) (all : Array Oper) : List Oper → List Nat → Option (List X)
  | [], _ => some []
  | o :: r, acc =>
    let m := maskOf acc o.after.toList
    let g : Option (Option (Nat × Bool)) := match o.guard with
      | none => some none
      | some (j, want) => if m.testBit j then (match (all[j]?).bind (·.dst) with | some d => some (some (d, want)) | none => none) else none
    match rdyI P o, g, rdyX P nt all r (acc ++ [m]) with
    | some i, some g, some l => if okX nt acc.length o = true then some ({ op := i, dst := o.dst, grd := g, bef := m } :: l) else none
    | _, _, _ => none
def X.reads (x : X) : List Nat := x.op.slots ++ (match x.grd with | some (k, _) => [k] | none => [])
/-- Each slot is written once, and read behind what writes it or ahead of it; a writing operation and a call stand in order; what goes before goes before what comes behind. -/
def statOk (l : List X) : Bool :=
  l.zipIdx.all fun (x, i) => l.zipIdx.all fun (y, j) => Nat.beq i j ||
    ((!x.bef.testBit j || (Nat.blt j i && Nat.beq (y.bef ||| x.bef) x.bef)) &&
     (x.bef.testBit j || y.bef.testBit i || !(x.op.write && y.op.isCall)) &&
     (match x.dst with
      | none => true
      | some d => y.dst != some d && (!y.reads.contains d || y.bef.testBit i || x.bef.testBit j)))
def rdyC (P : Program) (nt : Nat) : Code → Option XC
  | .skip => some .skip
  | .label _ => some .skip
  | .ret => some .ret
  | .exit id => some (.exit id)
  | .seq a b => match rdyC P nt a, rdyC P nt b with | some a, some b => some (.seq a b) | _, _ => none
  | .cond c a b => match rdyO c, rdyC P nt a, rdyC P nt b with | some c, some a, some b => some (.cond c a b) | _, _, _ => none
  | .block id a => (rdyC P nt a).map (.block id)
  | .loop a => (rdyC P nt a).map .loop
  | .scope a => (rdyC P nt a).map .scope
  | .region _ ops false => (rdyX P nt ops ops.toList []).map .reg
  | .region _ ops true => match rdyX P nt ops ops.toList [] with
    | some l => if statOk l then some (.draw l) else none
    | none => none
  | .rangeFunc f ps a b => match rdyO f, rdyC P nt a, rdyC P nt b with | some f, some a, some b => if (a.noRange && b.noRange && ps.toList.all fun p => decide (p < nt)) = true then some (.range f ps.toList a b) else none | _, _, _ => none
  | _ => none
def rdyR (P : Program) : List ResultVar → Option (List RV)
  | [] => some []
  | .tmp t :: r => (rdyR P r).map fun l => .t t :: l
  | .cell a t :: r => match isAgg P t, sizeOf P t, rdyR P r with | some ag, some n, some l => some (.cell a ag n :: l) | _, _, _ => none
def rdyF (P : Program) (fn : Func) : Option XF := match fn.body with
  | some c => match fn.name == "runtime.NumGoroutine", rdyC P fn.ntmps c, rdyR P fn.results.toList with | false, some b, some r => some { body := b, res := r } | _, _, _ => none
  | none => none
end Go.Ev
end
