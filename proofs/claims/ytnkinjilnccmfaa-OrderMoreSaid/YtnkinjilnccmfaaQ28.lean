/- order: the program's Find. -/
import Derived.Test.YtnkinjilnccmfaaQ26
namespace Go.Order
open Go.RowKit Go.Own Go.Proofs.Ytnkinjilnccmfaa
theorem tre_mem {may : List Spl} {st : List Int} : ∀ {n s : Nat} {x : Spl}, x ∈ tre may st n s → x ∈ may := by
  intro n
  induction n with
  | zero => intro s x h; cases h
  | succ n ih =>
    intro s x h
    unfold tre at h
    split at h
    · cases hm : may[(bb may st s).1.toNat]? with
      | none => rw [hm] at h; cases h
      | some y =>
        rw [hm] at h
        dsimp only at h
        rcases List.mem_cons.1 h with h | h
        · rw [h]; exact List.mem_of_getElem? hm
        · rcases List.mem_append.1 h with h | h
          · exact ih h
          · exact ih h
    · cases h
/-- what can be built -/
def cn (may : List Spl) (st : List Int) (k : Int) : Bool := decide (0 ≤ (bb may st k.toNat).2)
def canL (may : List Spl) (st : List Int) : List Nat := (List.range 65536).filter fun j : Nat => hasB st (j : Int) && cn may st (j : Int)
structure FV where
  l : List Spl
  n : Int
  s : List Nat
  e : Int
def findV (whole : Int) (may : List Spl) (st : List Int) : FV :=
  if errV whole may st = 0 then
    if 0 ≤ (bb may st whole.toNat).2 then ⟨tre may st 65536 whole.toNat, (bb may st whole.toNat).2, [], 0⟩ else ⟨[], 0, canL may st, 6⟩
  else ⟨[], 0, [], errV whole may st⟩
end Go.Order
namespace Go.Proofs.Ytnkinjilnccmfaa
open Go.RowKit Go.Own Go.BigFrame Go.Big Go.Order
theorem results_ttct {P : Program} {fn : Func} {p q r u : Tmp} {s : TypeId} (h : fn.results = #[.tmp p, .tmp q, .cell r s, .tmp u]) {tmps : Array Value} {w : World} {a : Addr} {v : Value}
    (hp : tmps.getD r undef = .pointer (some a)) (hu : (loadVar s a).run P w = .ok v w) :
    (results fn tmps).run P w = .ok (.tuple #[tmps.getD p undef, tmps.getD q undef, v, tmps.getD u undef]) w := by
  simp only [results, h]
  rw [Array.getD_eq_getD_getElem?] at hp
  simp [asAddr, hp, hu, Sem.run_bind]
theorem infoN : (Try.prog.info? 29).map (·.size) = some 1 := by kernel_rfl
theorem aggN : (match Try.prog.underlying 29 with | some (.struct _) | some (.array _ _) => true | _ => false) = true := by kernel_rfl
theorem bmap_eq {f g : Int → Bool} {k : Int} (h : f k = g k) : bmap f k = bmap g k := by unfold bmap; rw [h]
/-- what Find returns -/
structure FdQ (whole : Int) (may : List Spl) (st : List Int) (w : World) (e : Ending) (w' : World) : Prop where
  out : ∃ sa ca ss cs, e = .returned (.tuple #[.slice sa (findV whole may st).l.length ca, .int .i64 (findV whole may st).n, .agg #[.slice ss (findV whole may st).s.length cs], .int .i64 (findV whole may st).e]) ∧
    Lst w' (.slice sa (findV whole may st).l.length ca) (findV whole may st).l ∧ Sz w' (.slice ss (findV whole may st).s.length cs) (findV whole may st).s.length (nts (findV whole may st).s) ∧ Below w.heap.size w w'
theorem lst_nil (w : World) : Lst w (.slice none 0 0) [] := ⟨⟨rfl, .inl ⟨rfl, rfl⟩⟩, fun x h => by cases h⟩
attribute [local irreducible] SqC.SqW
attribute [local go_sem high] run_store_func
set_option maxRecDepth 100000 in
set_option maxHeartbeats 6400000 in
theorem find_any (whole : Int) (may : List Spl) (st : List Int) (s t : Option Addr) (ca cb : Nat) (w : World) (hl : Lst w (.slice s may.length ca) may) (hm : Sz w (.slice t st.length cb) st.length (intsI st)) :
    Calls Try.prog 12 #[.int .i64 whole, .slice s may.length ca, .slice t st.length cb] w fun e w' => FdQ whole may st w e w' := by
  obtain ⟨W1, hW1⟩ : ∃ W1, W1 = w.alloc (.cells #[.slice s may.length ca] 23) := ⟨_, rfl⟩
  obtain ⟨W2, hW2⟩ : ∃ W2, W2 = W1.alloc (.cells #[.slice none 0 0] 29) := ⟨_, rfl⟩
  have z1 : W1.heap.size = w.heap.size + 1 := by rw [hW1]; exact alloc_size _ _
  have z2 : W2.heap.size = w.heap.size + 1 + 1 := by rw [hW2, alloc_size, z1]
  have b1 : Below w.heap.size w W1 := by rw [hW1]; exact alloc_below _ _
  have b2 : Below W1.heap.size W1 W2 := by rw [hW2]; exact alloc_below _ _
  have b02 : Below w.heap.size w W2 := b1.trans (b2.mono b1.size)
  have cm : Blk W2 w.heap.size [.slice s may.length ca] 23 := (by rw [hW1]; exact Blk.new w #[.slice s may.length ca] 23 : Blk W1 w.heap.size [.slice s may.length ca] 23).below b2 (by omega)
  have cn : Blk W2 (w.heap.size + 1) [.slice none 0 0] 29 := by
    have : Blk W2 W1.heap.size [.slice none 0 0] 29 := by rw [hW2]; exact Blk.new W1 #[.slice none 0 0] 29
    rwa [z1] at this
  have hf := fits_any whole may st s t ca cb W2 (hl.below b02) (hm.below b02)
  have q1 : W2.cell? ⟨w.heap.size, 0, none⟩ = some (.slice s may.length ca) := cm.cell rfl
  have hev := errV_cases whole may st
  have hok := fun h : errV whole may st = 0 => errV_ok h
  have hfv : findV whole may st = if errV whole may st = 0 then (if 0 ≤ (bb may st whole.toNat).2 then ⟨tre may st 65536 whole.toNat, (bb may st whole.toNat).2, [], 0⟩ else ⟨[], 0, canL may st, 6⟩) else ⟨[], 0, [], errV whole may st⟩ := rfl
  obtain ⟨E, hE⟩ : ∃ E, E = errV whole may st := ⟨_, rfl⟩
  rw [← hE] at hf hev hok hfv
  rw [hW2, hW1] at q1
  have HF := Lib.hid hf; clear hf
  have HL := Lib.hid hl; clear hl
  have HM := Lib.hid hm; clear hm
  have HOK := Lib.hid hok; clear hok
  have HFV := Lib.hid hfv; clear hfv
  have HB02 := Lib.hid b02; clear b02 b1 b2 z1
  have HZ2 := Lib.hid z2; clear z2
  have HCM := Lib.hid cm; clear cm
  have HCN := Lib.hid cn; clear cn
  have HW1 := Lib.hid hW1; clear hW1
  have HW2 := Lib.hid hW2; clear hW2
  clear hE
  by_cases h0 : E = 0
  · subst h0
    clear hev
    obtain ⟨hn1, hn2, hwb, hst, hmok⟩ := HOK.out (by first | rfl | trivial)
    obtain ⟨m, rfl, hm1, hm2⟩ := isB_nat hwb
    have hfv2 : findV (m : Int) may st = if 0 ≤ (bb may st m).2 then ⟨tre may st 65536 m, (bb may st m).2, [], 0⟩ else ⟨[], 0, canL may st, 6⟩ := by rw [HFV.out, if_pos (by first | rfl | trivial), Int.toNat_natCast]
    have hbr := fun (U : World) (hU : Below w.heap.size w U) => builder_any may st s t ca cb U (HL.out.below hU) (HM.out.below hU) hmok (by omega) (by omega)
    have HBR := Lib.hid hbr; clear hbr
    have HFV2 := Lib.hid hfv2; clear hfv2
    have HIS := Lib.hid hst; clear hst
    have HMN := Lib.hid (And.intro hm1 (And.intro hm2 (And.intro hn1 hn2))); clear hm1 hm2 hn1
    have HMO := Lib.hid hmok; clear hmok hwb
    have hn2' : (st.length : Int) < 4611686018427387904 := by omega
    clear hn2
    go_enter Try.func12, Try.ntmps12
    go_wp2_with (fail)
    rw [← HW1.out, ← HW2.out]
    clear q1
    refine HF.out.mono ?_
    rintro e V1 ⟨rfl, bV⟩
    have cm1 : V1.cell? ⟨w.heap.size, 0, none⟩ = some (.slice s may.length ca) := (HCM.out.below bV HCM.out.lt).cell rfl
    have cn1 := HCN.out.below bV HCN.out.lt
    have bw1 : Below w.heap.size w V1 := HB02.out.trans (bV.mono HB02.out.size)
    have hz1 : w.heap.size + 1 + 1 ≤ V1.heap.size := by have := bV.size; have := HZ2.out; omega
    have HBR1 := Lib.hid (HBR.out V1 bw1); clear HBR
    have CM1 := Lib.hid (HCM.out.below bV HCM.out.lt)
    have CN1 := Lib.hid cn1; clear cn1
    have BW1 := Lib.hid bw1; clear bw1 bV
    have HZ1 := Lib.hid hz1; clear hz1
    go_wp2_with (fail)
    clear cm1
    refine HBR1.out.mono ?_
    rintro e w3 ⟨V, gf, go, gm, F, O, K, gk, gb, rfl, S, hw3, bV1, hsz, b13, rfl, rfl, rfl⟩
    obtain ⟨W4, hW4⟩ : ∃ W4, W4 = w3.alloc (.cells #[bdv (V.heap.size + 1) gf go (V.heap.size + 1 + 1) gm] 66) := ⟨_, rfl⟩
    have b34 : Below w3.heap.size w3 W4 := by rw [hW4]; exact alloc_below _ _
    have cb4 : Blk W4 w3.heap.size [bdv (V.heap.size + 1) gf go (V.heap.size + 1 + 1) gm] 66 := by rw [hW4]; exact Blk.new w3 #[bdv (V.heap.size + 1) gf go (V.heap.size + 1 + 1) gm] 66
    have hw4 := hw3.low b34
    have hbd := build_any S m HMN.out.2.1 W4 hw4
    have q4 : W4.cell? ⟨w3.heap.size, 0, none⟩ = some (bdv (V.heap.size + 1) gf go (V.heap.size + 1 + 1) gm) := cb4.cell rfl
    have b14 : Below V1.heap.size V1 W4 := b13.trans (b34.mono b13.size)
    have cm4 := CM1.out.below b14 CM1.out.lt
    have cn4 := CN1.out.below b14 CN1.out.lt
    have hV1 : V1.heap.size ≤ V.heap.size := bV1.size
    have bw4 : Below w.heap.size w W4 := BW1.out.trans (b14.mono BW1.out.size)
    rw [hW4] at q4
    have HS := Lib.hid S; clear S
    have HSZ := Lib.hid (And.intro hsz hV1); clear hsz hV1
    have HBD := Lib.hid hbd; clear hbd
    have HW4' := Lib.hid hw4; clear hw4 hw3
    have CB4 := Lib.hid cb4; clear cb4
    have CM4 := Lib.hid cm4; clear cm4
    have CN4 := Lib.hid cn4; clear cn4
    have BW4 := Lib.hid bw4; clear bw4
    have HW4 := Lib.hid hW4; clear hW4 b34 b14 b13 bV1 HBR1 CM1 CN1 BW1
    unfold bdv at q4
    unfold bdv
    go_wp2_with (fail)
    have hwe : w3.alloc (.cells #[.func (.func 64) #[] #[.pointer (some ⟨V.heap.size + 1, 0, none⟩), .pointer (some ⟨gf, 0, none⟩), .pointer (some ⟨go, 0, none⟩), .pointer (some ⟨V.heap.size + 1 + 1, 0, none⟩), .pointer (some ⟨gm, 0, none⟩)]] 66) = W4 := HW4.out.symm
    rw [hwe]
    clear hwe q4
    refine HBD.out.mono ?_
    rintro e w5 ⟨rfl, hx5, hw5⟩
    obtain ⟨b, hb⟩ : ∃ b, b = bb may st m := ⟨_, rfl⟩
    have hfv3 := HFV2.out
    rw [← hb] at hfv3 ⊢
    obtain ⟨b1, b2⟩ := b
    simp only [bv]
    dsimp only at hfv3
    have HBB := Lib.hid hb; clear hb
    have HFV3 := Lib.hid hfv3; clear hfv3 HFV2
    obtain ⟨W6, hW6⟩ : ∃ W6, W6 = w5.alloc (.cells #[.int .i64 b1, .int .i64 b2] 69) := ⟨_, rfl⟩
    have b56 : Below w5.heap.size w5 W6 := by rw [hW6]; exact alloc_below _ _
    have cx6 : Blk W6 w5.heap.size [.int .i64 b1, .int .i64 b2] 69 := by rw [hW6]; exact Blk.new w5 #[.int .i64 b1, .int .i64 b2] 69
    have hKV : V.heap.size ≤ w3.heap.size := by have := HSZ.out.1; omega
    have cb6 := (CB4.out.chg hx5.1 (by have := HSZ.out.1; simp; omega)).below b56 (Nat.lt_of_lt_of_le CB4.out.lt hx5.1.size)
    have cm6 := (CM4.out.chg hx5.1 (by have := HZ1.out; have := HSZ.out; simp; omega)).below b56 (Nat.lt_of_lt_of_le CM4.out.lt hx5.1.size)
    have cn6 := (CN4.out.chg hx5.1 (by have := HZ1.out; have := HSZ.out; simp; omega)).below b56 (Nat.lt_of_lt_of_le CN4.out.lt hx5.1.size)
    have bw5 : Below w.heap.size w w5 := BW4.out.trans (hx5.1.below BW4.out.size (by have := HZ1.out; have := HSZ.out; simp; omega))
    have bw6 : Below w.heap.size w W6 := bw5.trans (b56.mono bw5.size)
    have hw6 := hw5.low b56
    have h45 : W4.heap.size ≤ w5.heap.size := hx5.1.size
    have h34 : w3.heap.size < W4.heap.size := CB4.out.lt
    have hz6 : W6.heap.size = w5.heap.size + 1 := by rw [hW6]; exact alloc_size _ _
    have HZ6 := Lib.hid hz6; clear hz6
    have CX6 := Lib.hid cx6; clear cx6
    have CB6 := Lib.hid cb6; clear cb6
    have CM6 := Lib.hid cm6; clear cm6
    have CN6 := Lib.hid cn6; clear cn6
    have BW6 := Lib.hid bw6; clear bw6 bw5
    have HW6' := Lib.hid hw6; clear hw6 hw5 hx5
    have HORD := Lib.hid (And.intro hKV (And.intro h34 h45)); clear hKV h34 h45 b56
    have HW6 := Lib.hid hW6; clear hW6
    by_cases hb0 : 0 ≤ b2
    · have hd : decide (0 ≤ b2) = true := decide_eq_true hb0
      have hv := HFV3.out
      rw [if_pos hb0] at hv
      have HV := Lib.hid hv; clear hv hb0
      rw [hd]
      obtain ⟨W7, hW7⟩ : ∃ W7, W7 = W6.alloc (.cells #[.slice none 0 0] 23) := ⟨_, rfl⟩
      obtain ⟨W8, hW8⟩ : ∃ W8, W8 = W7.alloc (.cells #[adv w3.heap.size W6.heap.size w.heap.size (W6.heap.size + 1)] 76) := ⟨_, rfl⟩
      have y7 : W7.heap.size = W6.heap.size + 1 := by rw [hW7, alloc_size]
      have y8 : W8.heap.size = W6.heap.size + 1 + 1 := by rw [hW8, alloc_size, y7]
      have b67 : Below W6.heap.size W6 W7 := by rw [hW7]; exact alloc_below _ _
      have b78 : Below W7.heap.size W7 W8 := by rw [hW8]; exact alloc_below _ _
      have b68 : Below W6.heap.size W6 W8 := b67.trans (b78.mono b67.size)
      have go8 : Blk W8 W6.heap.size [.slice none 0 0] 23 := (by rw [hW7]; exact Blk.new W6 #[.slice none 0 0] 23 : Blk W7 W6.heap.size [.slice none 0 0] 23).below b78 (by omega)
      have ga8 : Blk W8 (W6.heap.size + 1) [adv w3.heap.size W6.heap.size w.heap.size (W6.heap.size + 1)] 76 := by
        have : Blk W8 W7.heap.size [adv w3.heap.size W6.heap.size w.heap.size (W6.heap.size + 1)] 76 := by rw [hW8]; exact Blk.new W7 #[adv w3.heap.size W6.heap.size w.heap.size (W6.heap.size + 1)] 76
        rwa [y7] at this
      have hlt5 : w5.heap.size < W6.heap.size := CX6.out.lt
      have hA : AdS V W8 may st s ca gf go gm F O V.heap.size (V.heap.size + 1) (V.heap.size + 1 + 1) w3.heap.size W6.heap.size w.heap.size (W6.heap.size + 1) := by
        have q1 := HSZ.out
        have q2 := HORD.out
        have q3 := HZ1.out
        refine ⟨HS.out, HW6'.out.low b68, (CB6.out.below b68 CB6.out.lt).cell rfl, (CM6.out.below b68 CM6.out.lt).cell rfl, ga8.cell rfl, ?_, ?_, ?_, ?_, ?_, ?_⟩ <;> first | omega | (refine ⟨?_, ?_⟩ <;> omega) | (refine ⟨?_, ?_, ?_⟩ <;> omega)
      have hAW : AdW W8 W8 may st V.heap.size W6.heap.size [] := ⟨Chg.refl _ _, (HW6'.out.low b68).kn, _, go8, World.ownsRow_nil _ _ _ _⟩
      have had := add_any hA 65536 m HMN.out.2.1 HMN.out.1 HMN.out.2.1 W8 [] (by have := Go.Theory.pop_le16 m; simp; omega) hAW
      rw [List.nil_append] at had
      have q8 : W8.cell? ⟨W6.heap.size + 1, 0, none⟩ = some (adv w3.heap.size W6.heap.size w.heap.size (W6.heap.size + 1)) := ga8.cell rfl
      have cx8 := CX6.out.below b68 CX6.out.lt
      have cn8 := CN6.out.below b68 CN6.out.lt
      have bw8 : Below w.heap.size w W8 := BW6.out.trans (b68.mono BW6.out.size)
      rw [HZ6.out] at had q8
      have hW8' := hW8
      rw [HZ6.out] at hW8'
      unfold adv at hW8' q8
      rw [hW8', hW7, HW6.out] at q8
      have HAD := Lib.hid had; clear had hAW
      have HA := Lib.hid hA; clear hA
      have CX8 := Lib.hid cx8; clear cx8
      have CN8 := Lib.hid cn8; clear cn8
      have BW8 := Lib.hid bw8; clear bw8 go8 ga8
      have Y8 := Lib.hid (And.intro y8 hlt5); clear y7 y8 hlt5 b67 b78 b68
      have HW7 := Lib.hid hW7; clear hW7 hW8
      have HW8 := Lib.hid hW8'; clear hW8'
      go_wp2_with (fail)
      rw [← HW6.out, ← HW7.out, ← HW8.out]
      clear q8
      refine HAD.out.mono ?_
      rintro e w9 ⟨⟨v9, rfl⟩, haw, hrw⟩
      rw [← HZ6.out] at haw
      obtain ⟨vo, hvo, hrow⟩ := haw.row
      obtain ⟨so, co, rfl, hge⟩ := own_slice hrow
      have hk9 : V.heap.size < W6.heap.size := by have := HORD.out; have := Y8.out; omega
      have cx9 := CX8.out.chg haw.chg (by have := HORD.out; have := Y8.out; simp; omega)
      have cn9 := CN8.out.chg haw.chg (by have := HORD.out; have := HZ1.out; have := HSZ.out; have := Y8.out; simp; omega)
      have bw9 : Below w.heap.size w w9 := BW8.out.trans (haw.chg.below BW8.out.size (by have := HORD.out; have := HZ1.out; have := HSZ.out; have := Y8.out; simp; omega))
      have hsl : Sl w9 10 (.slice so (tre may st 65536 m).length co) (tre may st 65536 m).length (flat (tre may st 65536 m)) := Sl.of_owns hrow
      have go9 : w9.cell? ⟨w5.heap.size + 1, 0, none⟩ = some (.slice so (tre may st 65536 m).length co) := by rw [← HZ6.out]; exact hvo.cell rfl
      obtain ⟨T, hT⟩ : ∃ T, T = tre may st 65536 m := ⟨_, rfl⟩
      have hTm : ∀ x ∈ T, x ∈ may := fun x hx => by rw [hT] at hx; exact tre_mem hx
      rw [← hT] at hsl go9 hge
      have hv := HV.out
      rw [← hT] at hv
      have HV2 := Lib.hid hv; clear hv HV
      have hne : ∀ b, (Value.slice so T.length co).ownBlock = some b → W8.heap.size ≤ b := hge
      have HTM := Lib.hid hTm; clear hTm hT
      have CX9 := Lib.hid cx9; clear cx9
      have CN9 := Lib.hid cn9; clear cn9
      have BW9 := Lib.hid bw9; clear bw9
      have HSL := Lib.hid hsl; clear hsl
      have HNE := Lib.hid hne; clear hne hge
      have G9 := Lib.hid go9; clear go9 hvo hrow haw hrw hk9
      go_wp2
      have hcell : ∀ U, Chg [w.heap.size + 1] w9 U → U.cell? ⟨w5.heap.size + 1, 0, none⟩ = some (.slice so T.length co) ∧ U.cell? ⟨w5.heap.size, 1, none⟩ = some (.int .i64 b2) := fun U hU =>
        ⟨hU.cell G9.out (by have := HORD.out; have := HZ1.out; have := HSZ.out; simp; omega), (CX9.out.chg hU (by have := HORD.out; have := HZ1.out; have := HSZ.out; simp; omega)).cell rfl⟩
      have HCE := Lib.hid hcell; clear hcell
      have eX : Chg [w.heap.size + 1] w9 w9.drew := (Chg.refl _ _).drew
      haveI : Nonempty (SqC.Come fun U : World => Chg [w.heap.size + 1] w9 U) := ⟨⟨_, eX⟩⟩
      refine SqC.wp_region_sqc 8 [6] (fun U : World => Chg [w.heap.size + 1] w9 U) (by kernel_rfl) (by kernel_rfl) (by kernel_rfl) eX ?_
      have cnd : Blk w9.drew (w.heap.size + 1) [.slice none 0 0] 29 := CN9.out.drew
      have sld : Sl w9.drew 10 (.slice so T.length co) T.length (flat T) := HSL.out.drew
      have bwd : Below w.heap.size w w9.drew := BW9.out.drew
      obtain ⟨wd, hwd⟩ : ∃ wd : World, wd = w9.drew := ⟨_, rfl⟩
      rw [← hwd] at eX cnd sld bwd ⊢
      clear hwd
      refine SqC.value (.slice so T.length co) rfl rfl (by intro U hU; have cx := (HCE.out U hU).1; go_simp) ?_
      simp only [Act.put, List.setIfInBounds_toArray, List.set_cons_zero, List.set_cons_succ]
      refine SqC.quiet rfl rfl ?_; go_big_quiet_step (fail); refine wpQuiet_nil ?_
      refine SqC.value (.int .i64 b2) rfl rfl (by intro U hU; have cx := (HCE.out U hU).2; go_simp) ?_
      simp only [Act.put, List.setIfInBounds_toArray, List.set_cons_zero, List.set_cons_succ]
      refine SqC.quiet rfl rfl ?_; go_big_quiet_step (fail); refine wpQuiet_nil ?_
      refine SqC.quiet rfl rfl ?_; go_big_quiet_step (fail); refine wpQuiet_nil ?_
      refine SqC.quiet rfl rfl ?_; go_big_quiet_step (fail); refine wpQuiet_nil ?_
      refine SqC.effectW rfl rfl ?_
      refine wpList_store_blk (ty := 29) (n := 1) (vs := [.slice none 0 0]) cnd rfl rfl rfl rfl rfl infoN rfl (by simp) (by intro u hu; simp at hu; subst hu; rfl) ?_
      intro wz z1 z2
      have z1' : Blk wz (w.heap.size + 1) [.slice none 0 0] 29 := z1
      have bz : Below w.heap.size w wz := z2.below bwd (by omega)
      have ez : Chg [w.heap.size + 1] w9 wz := eX.trans (Chg.of_oth z2 (by simp))
      have slz : Lst wz (.slice so T.length co) T := ⟨sld.chg (Chg.of_oth z2 (F := [w.heap.size + 1]) (by simp)) (fun b hb => by have := HNE.out b hb; have := Y8.out; have := HORD.out; have := HZ1.out; have := HSZ.out; simp; omega), fun x hx => (HL.out.below bz).at' x (HTM.out x hx)⟩
      have Z1 := Lib.hid z1'; clear z1' z1 z2 bwd sld cnd
      have BZ := Lib.hid bz; clear bz
      have SLZ := Lib.hid slz; clear slz
      have EZ := Lib.hid ez; clear ez eX
      go_wp2
      refine SqC.here rfl (fun _ => EZ.out) ?_
      refine SqC.quiet rfl rfl ?_; go_big_quiet_step (fail); refine wpQuiet_nil ?_
      refine SqC.nil ?_
      go_wp2
      refine bodyPost_ret (results_ttct rfl rfl (run_load_agg (P := Try.prog) (ty := 29) Z1.out.cells0 aggN infoN)) rfl ?_
      refine ⟨so, co, none, 0, ?_⟩
      rw [HV2.out]
      exact ⟨rfl, SLZ.out, fun h => absurd h (Nat.lt_irrefl 0), BZ.out⟩
    · have hd : decide (0 ≤ b2) = false := decide_eq_false hb0
      have hv := HFV3.out
      rw [if_neg hb0] at hv
      have HV := Lib.hid hv; clear hv hb0
      rw [hd]
      obtain ⟨W7, hW7⟩ : ∃ W7, W7 = W6.alloc (.map #[] 0) := ⟨_, rfl⟩
      have b67 : Below W6.heap.size W6 W7 := by rw [hW7]; exact alloc_below _ _
      have mS : FirmM W7 (w5.heap.size + 1) fun _ => false := by
        have h := FirmM.new W6
        rw [← hW7, HZ6.out] at h
        exact h
      have hw7 := HW6'.out.low b67
      have cb7 := CB6.out.below b67 CB6.out.lt
      have cn7 := CN6.out.below b67 CN6.out.lt
      have bw7 : Below w.heap.size w W7 := BW6.out.trans (b67.mono BW6.out.size)
      have hmk := mk_firm W6
      rw [HW6.out, World.size_alloc] at hmk
      have hz7 : W7.heap.size = w5.heap.size + 1 + 1 := by rw [hW7, alloc_size, HZ6.out]
      have MS := Lib.hid mS; clear mS
      have HW7' := Lib.hid hw7; clear hw7
      have CB7 := Lib.hid cb7; clear cb7
      have CN7 := Lib.hid cn7; clear cn7
      have BW7 := Lib.hid bw7; clear bw7 b67
      have HZ7 := Lib.hid hz7; clear hz7
      have HW7 := Lib.hid hW7; clear hW7
      go_wp2
      rw [← HW6.out, ← HW7.out]
      clear hmk
      go_loopw [43] (fun v wr => ∃ i : Nat, i ≤ st.length ∧ v = .int .i64 i ∧ FirmM wr (w5.heap.size + 1) (fun k => hasB (st.take i) k && Go.Order.cn may st k) ∧ BdW V wr may st gf go gm V.heap.size (V.heap.size + 1) (V.heap.size + 1 + 1) ∧ Chg [V.heap.size, w5.heap.size + 1] W7 wr) (fun v _ => st.length - (vInt v).toNat)
      case atStart => exact ⟨0, Nat.zero_le _, rfl, MS.out.congr fun k => rfl, HW7'.out, Chg.refl _ _⟩
      case round =>
        obtain ⟨i, hi, rfl, hfA, hwr, hch⟩ := hrel
        have HFA := Lib.hid hfA; clear hfA
        have HCH := Lib.hid hch; clear hch
        have hord : w3.heap.size ≠ V.heap.size ∧ w3.heap.size ≠ w5.heap.size + 1 ∧ w.heap.size + 1 ≠ V.heap.size ∧ w.heap.size + 1 ≠ w5.heap.size + 1 ∧ w.heap.size ≤ V.heap.size ∧ w.heap.size ≤ w5.heap.size + 1 ∧ V.heap.size ≠ w5.heap.size + 1 := by
          have q1 := HSZ.out
          have q2 := HORD.out
          have q3 := HZ1.out
          refine ⟨?_, ?_, ?_, ?_, ?_, ?_, ?_⟩ <;> omega
        have qb : wr.cell? ⟨w3.heap.size, 0, none⟩ = some (bdv (V.heap.size + 1) gf go (V.heap.size + 1 + 1) gm) := (CB7.out.chg HCH.out (by simp; omega)).cell rfl
        have cnr := CN7.out.chg HCH.out (by simp; omega)
        have hbw : Below w.heap.size w wr := BW7.out.trans (HCH.out.below BW7.out.size (by simp; omega))
        have HORD2 := Lib.hid hord; clear hord
        have HBW := Lib.hid hbw; clear hbw
        have HWR := Lib.hid hwr; clear hwr
        have CNR := Lib.hid cnr; clear cnr
        by_cases hil : i < st.length
        · have hil' : (i : Int) < st.length := by omega
          obtain ⟨g, o, rfl, -, -, hC, hgl⟩ := sl_at (HM.out (by omega)) (by omega)
          obtain ⟨j, hj, _, hj6⟩ := isB_nat (List.all_eq_true.1 HIS.out st[i] (List.getElem_mem hil))
          have hhas : ∀ z, hasB (st.take (i + 1)) z = (decide (z = (j : Int)) || hasB (st.take i) z) := fun z => by rw [← hj]; exact hasB_take hil z
          have cx : wr.cell? ⟨g, o + i, none⟩ = some (.int .i64 (j : Int)) := by rw [← hj]; exact (hC.below HBW.out hgl) i _ (intsI_at hil)
          have hbd := build_any HS.out j hj6 wr HWR.out
          have hcn : Go.Order.cn may st (j : Int) = decide (0 ≤ (bb may st j).2) := by unfold Go.Order.cn; rw [Int.toNat_natCast]
          have HHAS := Lib.hid hhas; clear hhas hj hC hj6
          have HBDJ := Lib.hid hbd; clear hbd
          unfold bdv at qb
          go_wp2_with (fail)
          clear cx
          refine HBDJ.out.mono ?_
          rintro e w8 ⟨rfl, hx8, hw8⟩
          obtain ⟨y, hy⟩ : ∃ y, y = bb may st j := ⟨_, rfl⟩
          rw [← hy] at hcn ⊢
          clear hy
          obtain ⟨y1, y2⟩ := y
          simp only [bv]
          dsimp only at hcn
          obtain ⟨W9, hW9⟩ : ∃ W9, W9 = w8.alloc (.cells #[.int .i64 y1, .int .i64 y2] 69) := ⟨_, rfl⟩
          have b89 : Below w8.heap.size w8 W9 := by rw [hW9]; exact alloc_below _ _
          have hw9 := hw8.low b89
          have hfa9 : FirmM W9 (w5.heap.size + 1) (fun k => hasB (st.take i) k && Go.Order.cn may st k) := (HFA.out.chg hx8.1 (by have := HORD2.out; simp; omega)).below b89
          have ch9 : Chg [V.heap.size, w5.heap.size + 1] W7 W9 := (HCH.out.trans (hx8.1.mono (by simp))).trans (Chg.of_below b89)
          clear hx8 hw8 b89 qb
          have HFA9 := Lib.hid hfa9; clear hfa9
          have CH9 := Lib.hid ch9; clear ch9
          have HW9' := Lib.hid hw9; clear hw9
          have HW9 := Lib.hid hW9; clear hW9
          have HCN := Lib.hid hcn; clear hcn
          by_cases hy0 : 0 ≤ y2
          · have hd : decide (0 ≤ y2) = true := decide_eq_true hy0
            have hcj : Go.Order.cn may st (j : Int) = true := by rw [HCN.out]; exact hd
            have HCJ := Lib.hid hcj; clear hcj
            rw [hd]
            clear hd hy0
            obtain ⟨mm, hmm, hgg⟩ := HFA9.out
            rw [HW9.out] at hmm
            have HMm := Lib.hid hmm; clear hmm
            have HGm := Lib.hid hgg; clear hgg
            go_wp2_with (refine wpList_mapUpdate_imap (k := (j : Int)) (v := .bool true) HMm.out rfl rfl rfl rfl rfl rfl hTfirm hKset ?_)
            intro w10 hm3 hc3 hz3
            rw [← HW9.out] at hc3
            have hfn : FirmM w10 (w5.heap.size + 1) (fun k => hasB (st.take (i + 1)) k && Go.Order.cn may st k) := (FirmM.set HGm.out hm3).congr fun k => bmap_eq (by
              show (decide (k = (j : Int)) || (hasB (st.take i) k && Go.Order.cn may st k)) = (hasB (st.take (i + 1)) k && Go.Order.cn may st k)
              rw [HHAS.out k]
              by_cases hk : k = (j : Int)
              · rw [hk, HCJ.out]; simp
              · simp [hk])
            have hcn10 : Chg [V.heap.size, w5.heap.size + 1] W7 w10 := CH9.out.trans (hc3.mono (by simp))
            have hw10 : BdW V w10 may st gf go gm V.heap.size (V.heap.size + 1) (V.heap.size + 1 + 1) := by
              have q1 := HSZ.out
              have q2 := HORD.out
              have h := HW9'.out
              exact ⟨h.below.trans (hc3.below h.below.size (by simp; omega)), hc3.cell h.ck (by simp; omega), hc3.cell h.cb (by simp; omega), h.kn.chg hc3 (by simp; omega)⟩
            have HFN := Lib.hid hfn; clear hfn hm3
            have HCN10 := Lib.hid hcn10; clear hcn10 hc3
            have HW10 := Lib.hid hw10; clear hw10
            go_wp2
            go_roundw
            case rel => exact ⟨i + 1, by omega, by go_num, HFN.out, HW10.out, HCN10.out⟩
            case measure => simp [vInt]; omega
          · have hd : decide (0 ≤ y2) = false := decide_eq_false hy0
            have hcj : Go.Order.cn may st (j : Int) = false := by rw [HCN.out]; exact hd
            have HCJ := Lib.hid hcj; clear hcj
            rw [hd]
            clear hd hy0
            have hfn : FirmM W9 (w5.heap.size + 1) (fun k => hasB (st.take (i + 1)) k && Go.Order.cn may st k) := HFA9.out.congr fun k => bmap_eq (by
              show (hasB (st.take i) k && Go.Order.cn may st k) = (hasB (st.take (i + 1)) k && Go.Order.cn may st k)
              rw [HHAS.out k]
              by_cases hk : k = (j : Int)
              · rw [hk, HCJ.out]; simp
              · simp [hk])
            have HFN := Lib.hid hfn; clear hfn
            go_wp2
            rw [← HW9.out]
            go_roundw
            case rel => exact ⟨i + 1, by omega, by go_num, HFN.out, HW9'.out, CH9.out⟩
            case measure => simp [vInt]; omega
        · have hil' : ((i : Int) < st.length) = False := eq_false (by omega)
          have hfall : FirmM wr (w5.heap.size + 1) (fun k => hasB st k && Go.Order.cn may st k) := HFA.out.congr fun k => by rw [List.take_of_length_le (by omega)]
          have hso := sorted_any wr (w5.heap.size + 1) _ 65536 (Nat.le_refl _) hfall (fun k hk => by
            rw [Bool.and_eq_true] at hk
            have h1 := hk.1
            unfold hasB at h1
            rw [List.contains_iff_mem] at h1
            obtain ⟨j, hj, _, hj6⟩ := isB_nat (List.all_eq_true.1 HIS.out k h1)
            exact ⟨j, hj6, hj⟩)
          have hke := keys_any (some (w5.heap.size + 1)) wr
          obtain ⟨L, hL⟩ : ∃ L, L = canL may st := ⟨_, rfl⟩
          have hLe : ((List.range 65536).filter fun j : Nat => hasB st (j : Int) && Go.Order.cn may st (j : Int)) = L := hL.symm
          rw [hLe] at hso
          have hv := HV.out
          rw [← hL] at hv
          have HV2 := Lib.hid hv; clear hv HV
          have HSO := Lib.hid hso; clear hso
          have HKE := Lib.hid hke; clear hke hLe hL hfall qb
          go_wp2_with (fail)
          refine HKE.out.mono ?_
          rintro e w11 ⟨rfl, rfl⟩
          go_wp2_with (fail)
          refine HSO.out.mono ?_
          rintro e w12 ⟨v12, rfl, hrow, hb12⟩
          obtain ⟨ss, cs, rfl, hge⟩ := own_slice hrow
          have hsl : Sl w12 1 (.slice ss L.length cs) L.length (nts L) := Sl.of_owns hrow
          have cn12 := CNR.out.below hb12 CNR.out.lt
          have bw12 : Below w.heap.size w w12 := HBW.out.trans (hb12.mono HBW.out.size)
          have HSL := Lib.hid hsl; clear hsl hrow
          have HGE := Lib.hid hge; clear hge
          have CN12 := Lib.hid cn12; clear cn12 hb12
          have BW12 := Lib.hid bw12; clear bw12
          have HLTN := Lib.hid CNR.out.lt
          go_wp2_with (refine wpList_store_blk (ty := 29) (n := 1) (vs := [.slice ss L.length cs]) CN12.out rfl rfl rfl rfl rfl infoN rfl (by simp) (by intro u hu; simp at hu; subst hu; rfl) ?_)
          intro wz z1 z2
          have z1' : Blk wz (w.heap.size + 1) [.slice ss L.length cs] 29 := z1
          have bz : Below w.heap.size w wz := z2.below BW12.out (by omega)
          have slz : Sl wz 1 (.slice ss L.length cs) L.length (nts L) := HSL.out.chg (Chg.of_oth z2 (F := [w.heap.size + 1]) (by simp)) (fun b hb => by have := HGE.out b hb; have := HLTN.out; simp; omega)
          have Z1 := Lib.hid z1'; clear z1' z1 z2
          have BZ := Lib.hid bz; clear bz
          have SLZ := Lib.hid slz; clear slz
          go_wp2
          refine bodyPost_ret (results_ttct rfl rfl (run_load_agg (P := Try.prog) (ty := 29) Z1.out.cells0 aggN infoN)) rfl ?_
          refine ⟨none, 0, ss, cs, ?_⟩
          rw [HV2.out]
          exact ⟨rfl, lst_nil _, fun _ => SLZ.out, BZ.out⟩
  · have hv : findV whole may st = ⟨[], 0, [], E⟩ := by rw [HFV.out, if_neg h0]
    have HV := Lib.hid hv; clear hv
    have h1 : (E != 0) = true := by rw [bne_iff_ne]; exact h0
    have h2 : (E = 0) = False := eq_false h0
    clear h0 hev
    go_enter Try.func12, Try.ntmps12
    go_wp2_with (fail)
    rw [← HW1.out, ← HW2.out]
    clear q1
    refine HF.out.mono ?_
    rintro e V1 ⟨rfl, bV⟩
    have cnV := HCN.out.below bV HCN.out.lt
    have CNV := Lib.hid cnV; clear cnV
    have BWV := Lib.hid (HB02.out.trans (bV.mono HB02.out.size)); clear bV
    go_wp2_with (refine wpList_store_blk (ty := 29) (n := 1) (vs := [.slice none 0 0]) CNV.out rfl rfl rfl rfl rfl infoN rfl (by simp) (by intro u hu; simp at hu; subst hu; rfl) ?_)
    intro w3 k1 k2
    have bw3 : Below w.heap.size w w3 := k2.below BWV.out (by omega)
    have hk1 : Blk w3 (w.heap.size + 1) [.slice none 0 0] 29 := k1
    have BW3 := Lib.hid bw3; clear bw3
    have HK1 := Lib.hid hk1; clear hk1 k1 k2
    go_wp2
    refine bodyPost_ret (results_ttct rfl rfl (run_load_agg (P := Try.prog) (ty := 29) HK1.out.cells0 aggN infoN)) rfl ?_
    refine ⟨none, 0, none, 0, ?_⟩
    rw [HV.out]
    exact ⟨rfl, lst_nil _, fun h => absurd h (Nat.lt_irrefl 0), BW3.out⟩
end Go.Proofs.Ytnkinjilnccmfaa
