/- journal: the law JournalFindsRot, walked. -/
import Derived.Test.YtbmnbdkbgpajeaaGreatDoorFR27
import Derived.Test.YtbmnbdkbgpajeaaGreatDoorFR29
import Derived.Test.YtbmnbdkbgpajeaaGreatDoorFR30
import Derived.Test.YtbmnbdkbgpajeaaGreatDoorFR20
import Derived.Deep.CutBlock
import Derived.Test.YtbmnbdkbgpajeaaGreatDoorFR23
/- journal: the law JournalFindsRot, walked. -/
section
namespace Go.Proofs.YtbmnbdkbgpajeaaGreatDoor
open Go.RowKit Go.Own Go.Jn Go.Disk Go.BigFrame Go.Sha
attribute [local irreducible] SqW
attribute [local irreducible] SqC.SqW
attribute [local go_sem] setCell_twice str_size op_str_eql op_str_neq
/-- The map of the sectors of which a bit has been turned. -/
def Tm (W : World) (B : Nat) (l : List (Nat × Nat)) : Prop := IMap W B (l.map fun p => ((p.1 : Int), .bool true))
theorem tm_get (l : List (Nat × Nat)) (k : Int) : mget (l.map fun p : Nat × Nat => ((p.1 : Int), Value.bool true)) k = if k ∈ l.map (fun p : Nat × Nat => (p.1 : Int)) then some (.bool true) else none := by
  induction l with
  | nil => rfl
  | cons p l ih =>
    unfold mget at ih ⊢
    rw [List.map_cons, List.find?_cons]
    by_cases h : (p.1 : Int) = k
    · subst h; simp
    · have h2 : ((p.1 : Int) == k) = false := by simpa using h
      simp only [h2]
      rw [ih]
      simp only [List.map_cons, List.mem_cons]
      congr 1
      simp [Ne.symm h]
theorem Tm.look {W : World} {B : Nat} {l : List (Nat × Nat)} (h : Tm W B l) (n : Nat) :
    (Instr.lookup 45 (.map (some B)) (.int .i64 (n : Int)) false).run Tryz.prog W = .ok (.bool ((l.map Prod.fst).contains n)) W := by
  have hz : ∀ w, (zeroValue 4).run Tryz.prog w = .ok (.bool false) w := fun w => by kernel_rfl
  rw [run_lookup_imap hTw2 hKi h (hz W) n false, tm_get]
  by_cases hn : n ∈ l.map Prod.fst
  · have : (n : Int) ∈ l.map (fun p : Nat × Nat => (p.1 : Int)) := by
      obtain ⟨p, hp, e⟩ := List.mem_map.1 hn
      exact List.mem_map.2 ⟨p, hp, by omega⟩
    rw [if_pos this]
    simp only [List.contains_iff_mem.2 hn]
    rfl
  · have : ¬ (n : Int) ∈ l.map (fun p : Nat × Nat => (p.1 : Int)) := fun h => by
      obtain ⟨p, hp, e⟩ := List.mem_map.1 h
      exact hn (List.mem_map.2 ⟨p, hp, by omega⟩)
    rw [if_neg this]
    have hc : (l.map Prod.fst).contains n = false := by
      cases hb : (l.map Prod.fst).contains n with
      | false => rfl
      | true => exact absurd (List.contains_iff_mem.1 hb) hn
    rw [hc]
    rfl
theorem Tm.len {W : World} {B : Nat} {l : List (Nat × Nat)} (h : Tm W B l) (ty : TypeId) : (Builtin.len_ #[45] ty #[.map (some B)]).run Tryz.prog W = .ok (.int .i64 (l.length : Int)) W := by
  obtain ⟨es, clock, hb, _, h4⟩ := h
  have e : es.size = l.length := by
    have := congrArg List.length h4
    simpa using this
  rw [← e]
  simp [Builtin.len_, run_underlying hTw2, Go.MapKept.run_getObj_map hb, goInt, Result.andThen]
theorem tm_set (l : List (Nat × Nat)) (n b : Nat) (h : n ∉ l.map Prod.fst) : mset (l.map fun p : Nat × Nat => ((p.1 : Int), Value.bool true)) n (.bool true) = (l ++ [(n, b)]).map fun p : Nat × Nat => ((p.1 : Int), Value.bool true) := by
  unfold mset
  rw [if_neg]
  · rw [List.map_append]; rfl
  · rw [List.any_map]
    intro ha
    obtain ⟨p, hp, e⟩ := List.any_eq_true.1 ha
    have e : (p.1 : Int) = n := by simpa using e
    exact h (List.mem_map.2 ⟨p, hp, by omega⟩)
/-- what is known while bits are turned -/
structure RotI (W0 W : World) (f : Ft) (d : DS) (a0 cn q B : Nat) (l : List (Nat × Nat)) (d' : DS) : Prop where
  map : Tm W B l
  pd : PD W f d'
  tu : Turned d a0 l d'
  lt : ∀ p ∈ l, p.1 < cn ∧ p.2 < 512
  ne : 0 < q → l ≠ []
  ch : Chg (B :: f.all) W0 W
set_option maxRecDepth 100000 in
set_option maxHeartbeats 4000000 in
theorem findsRot_any (w : World) (s : Int) (l : List Stm) (k : UInt8) (bs : List Nat) (sa sb : Option Addr) (ca cb : Nat) (hl : StAt w (.slice sa l.length ca) l) (h16 : ∀ b ∈ bs, b < 65536) (hp : Sl w 1 (.slice sb bs.length cb) bs.length (bs.map fun z : Nat => .int .u16 (z : Int)))
    (hK : Cells w 2 0 (Kt.map U)) (h1 : 2 < w.heap.size) (hR : Cells w 0 0 (Kt.map U)) (h0 : 0 < w.heap.size) :
    Calls Tryz.prog 4 #[.int .i64 s, .slice sa l.length ca, byv k, .slice sb bs.length cb] w fun e w' => e = .returned (.bool true) ∧ Below w.heap.size w w' := by
  by_cases a1 : 200 < s
  · have q1 : (200 < s) = True := eq_true a1
    go_enter Tryz.func4, Tryz.ntmps4
    go_wp2_with fail
    refine (sanity_any w hK h1).mono ?_
    rintro e w1 ⟨rfl, b1⟩
    go_wp2
    go_ret
    exact ⟨rfl, b1⟩
  have q1 : (200 < s) = False := eq_false a1
  by_cases a2 : 12 < l.length
  · have q2 : ((12 : Int) < l.length) = True := eq_true (by omega)
    go_enter Tryz.func4, Tryz.ntmps4
    go_wp2_with fail
    refine (sanity_any w hK h1).mono ?_
    rintro e w1 ⟨rfl, b1⟩
    go_wp2
    go_ret
    exact ⟨rfl, b1⟩
  have q2 : ((12 : Int) < l.length) = False := eq_false (by omega)
  by_cases a3 : 8 < bs.length
  · have q3 : ((8 : Int) < bs.length) = True := eq_true (by omega)
    go_enter Tryz.func4, Tryz.ntmps4
    go_wp2_with fail
    refine (sanity_any w hK h1).mono ?_
    rintro e w1 ⟨rfl, b1⟩
    go_wp2
    go_ret
    exact ⟨rfl, b1⟩
  have q3 : ((8 : Int) < bs.length) = False := eq_false (by omega)
  by_cases a3' : bs.length = 0
  · have q4 : ((bs.length : Int) = 0) = True := eq_true (by omega)
    go_enter Tryz.func4, Tryz.ntmps4
    go_wp2_with fail
    refine (sanity_any w hK h1).mono ?_
    rintro e w1 ⟨rfl, b1⟩
    go_wp2
    go_ret
    exact ⟨rfl, b1⟩
  have q4 : ((bs.length : Int) = 0) = False := eq_false (by omega)
  have HK := Lib.hid hK; clear hK
  have HRR := Lib.hid hR; clear hR
  have HL1W := Lib.hid h1; clear h1
  have HL0W := Lib.hid h0; clear h0
  have HST := Lib.hid hl; clear hl
  have HPS := Lib.hid hp; clear hp
  have H16 := Lib.hid h16; clear h16
  have hl12 : l.length ≤ 12 := by omega
  have hb8 : bs.length ≤ 8 := by omega
  have hb1 : 1 ≤ bs.length := by omega
  clear a2 a3 a3'
  have hpb : ∀ b, (Value.slice sb bs.length cb).ownBlock = some b → b < w.heap.size := fun b hb => by
    obtain ⟨_, ⟨h2, _⟩ | ⟨b', off, cap, h2, _, _, _, h3⟩⟩ := HPS.out
    · rw [h2] at hb; cases hb
    · rw [h2] at hb
      have : b' = b := by simpa [Value.ownBlock] using hb
      omega
  have HPB := Lib.hid hpb; clear hpb
  go_enter Tryz.func4, Tryz.ntmps4
  go_wp2_with fail
  by_cases a4 : s < 1
  · have q5 : (s < 1) = True := eq_true a4
    refine (filled_bad w s l sa ca a4).mono ?_
    rintro e w1 ⟨rfl, b1⟩
    have HB1 := Lib.hid b1; clear b1
    go_wp2_with fail
    refine (sanity_any w1 (HK.out.below HB1.out HL1W.out) (Nat.lt_of_lt_of_le HL1W.out HB1.out.size)).mono ?_
    rintro e w2 ⟨rfl, b2⟩
    have HB2 := Lib.hid (HB1.out.trans (b2.mono HB1.out.size)); clear b2
    go_wp2
    go_ret
    exact ⟨rfl, HB2.out⟩
  obtain ⟨n, rfl⟩ : ∃ n : Nat, s = n := ⟨s.toNat, by omega⟩
  have hfill := filled_any w n (by omega) (by omega) l sa ca HST.out hl12 HK.out HL1W.out
  have HFI := Lib.hid hfill; clear hfill a1 a4
  refine HFI.out.mono ?_
  rintro e w1 ⟨f, d, j, A, B, vt, rfl, hF, hjl⟩
  have HF := Lib.hid hF; clear hF HFI
  obtain ⟨vts, vtc, rfl, _⟩ := own_slice HF.out.rt
  have htl : (texts j).length = j.rs.length := by simp [texts]
  have HTL := Lib.hid htl; clear htl
  by_cases a5 : j.rs.length = 0
  · have q5 : ((j.rs.length : Int) = 0) = True := eq_true (by omega)
    go_wp2_with fail
    refine (sanity_any w1 (HK.out.below HF.out.b HL1W.out) (Nat.lt_of_lt_of_le HL1W.out HF.out.b.size)).mono ?_
    rintro e w2 ⟨rfl, b2⟩
    have HB2 := Lib.hid (HF.out.b.trans (b2.mono HF.out.b.size)); clear b2
    go_wp2
    go_ret
    exact ⟨rfl, HB2.out⟩
  have q5 : ((j.rs.length : Int) = 0) = False := eq_false (by omega)
  have q5b : ((j.rs.length : Int) == 0) = false := by simpa using a5
  go_wp2_with fail
  obtain ⟨g, o, rfl, hC, hg, hcap⟩ : ∃ g o, vts = some ⟨g, o, none⟩ ∧ Cells w1 g o ((texts j).map str) ∧ g < w1.heap.size ∧ j.rs.length ≤ vtc := by
    obtain ⟨_, ⟨h2, h3⟩ | ⟨b, off, cap', h2, h3, h4, h5, h6⟩⟩ := Sl.of_owns HF.out.rt
    · omega
    · injection h2 with h2 _ h2c
      exact ⟨b, off, h2, h5, h6, by omega⟩
  have HC := Lib.hid hC; clear hC
  have HG := Lib.hid hg; clear hg
  go_quiet (fail)
  have hk8 := k.toNat_lt
  have hwk : (wrap64 (k.toNat : Int)).tmod (j.rs.length : Int) = ((k.toNat % j.rs.length : Nat) : Int) := by
    rw [IntWalk.wrap64_in _ (by omega), Int.tmod_eq_emod_of_nonneg (by omega)]
    exact (Int.natCast_emod _ _).symm
  rw [hwk]
  obtain ⟨hit, hhit⟩ : ∃ hit, hit = k.toNat % j.rs.length := ⟨_, rfl⟩
  have hhl : hit < j.rs.length := by rw [hhit]; exact Nat.mod_lt _ (by omega)
  rw [← hhit]
  clear hhit hwk hk8
  obtain ⟨w2, hw2⟩ : ∃ w2, w2 = w1.drewN nq := ⟨_, rfl⟩
  have hb2 : Below w1.heap.size w1 w2 := by rw [hw2]; exact below_drewN (Below.refl _ _) _
  rw [← hw2]
  clear hw2
  have HB2 := Lib.hid (HF.out.b.trans (hb2.mono HF.out.b.size))
  have HC2 := Lib.hid (HC.out.below hb2 HG.out)
  have HG2 := Lib.hid (Nat.lt_of_lt_of_le HG.out hb2.size)
  have HP2 := Lib.hid (HF.out.pd.below hb2)
  have HRT2 := Lib.hid (own_below HF.out.rt hb2)
  clear hb2 HC HG
  have HIN := Lib.hid HF.out.inv
  have HAP := Lib.hid HF.out.ap
  have HFA := Lib.hid HF.out.hf
  clear HF
  have HH8 := Lib.hid HIN.out.h8
  have hsb : ∀ q, q ≤ hit → secs ((texts j).take q) ≤ 3000 := fun q hq => by
    have key : ∀ l : List (List UInt8), (∀ t ∈ l, t.length ≤ 8000) → secs l ≤ l.length * 167 := by
      intro l
      induction l with
      | nil => intro _; exact Nat.le_refl _
      | cons x l ih =>
        intro h
        have h1 := (cntN_pos (h x (List.mem_cons_self ..))).2
        have h2 := ih fun t ht => h t (List.mem_cons_of_mem _ ht)
        unfold secs at h2 ⊢
        rw [List.map_cons, List.sum_cons, List.length_cons]
        omega
    have h1 := key ((texts j).take q) fun t ht => HH8.out t (List.mem_of_mem_take ht)
    rw [List.length_take] at h1
    omega
  have HSB := Lib.hid hsb; clear hsb
  have hhc : (hit : Int) ≤ vtc := by omega
  have hhc0 : (0 : Int) ≤ hit := by omega
  go_wp2_with fail
  go_loopw [12, 73] (fun a c wr => ∃ q : Nat, q ≤ hit ∧ a = .int .i64 (secs ((texts j).take q) : Nat) ∧ c = .int .i64 q ∧ wr = w2) (fun _ c _ => hit - (jInt c).toNat)
  case atStart => exact ⟨0, Nat.zero_le _, rfl, rfl, rfl⟩
  case round =>
    obtain ⟨q, hq, rfl, rfl, rfl⟩ := hrel
    by_cases hql : q < hit
    · have hqi : ((q : Int) < hit) = True := eq_true (by omega)
      obtain ⟨t, ht⟩ : ∃ t, (texts j)[q]? = some t := ⟨_, List.getElem?_eq_getElem (by have := HTL.out; omega)⟩
      have cx : wr.cell? ⟨g, o + q, none⟩ = some (str t) := HC2.out q _ (by rw [List.getElem?_map, ht]; rfl)
      have ht8 := HH8.out t (List.mem_of_getElem? ht)
      go_wp2_with fail
      refine (count_any _ wr).mono ?_
      rintro e w3 ⟨rfl, rfl⟩
      have hci : cntI (t.length : Int) = ((cntN t.length : Nat) : Int) := by unfold cntI; rw [if_neg (by omega), Int.toNat_natCast]
      rw [hci]
      have hc := (cntN_pos ht8).2
      have hs1 := HSB.out q hq
      go_wp2
      go_roundw
      case rel =>
        refine ⟨q + 1, by omega, ?_, by go_num, trivial⟩
        have e : (texts j).take (q + 1) = (texts j).take q ++ [t] := by
          have h9 := (List.getElem?_eq_some_iff.1 ht)
          rw [List.take_succ_eq_append_getElem h9.1, h9.2]
        rw [e]
        unfold secs
        rw [List.map_append, List.sum_append]
        simp
      case measure => simp [jInt]; omega
    · obtain rfl : hit = q := by omega
      have hqi : ((hit : Int) < hit) = False := eq_false (by omega)
      obtain ⟨t, ht⟩ : ∃ t, (texts j)[hit]? = some t := ⟨_, List.getElem?_eq_getElem (by have := HTL.out; omega)⟩
      have cx : wr.cell? ⟨g, o + hit, none⟩ = some (str t) := HC2.out hit _ (by rw [List.getElem?_map, ht]; rfl)
      have ht8 := HH8.out t (List.mem_of_getElem? ht)
      have hs1 := HSB.out hit (Nat.le_refl _)
      have hhT : (hit : Int) < j.rs.length := by omega
      go_wp2_with fail
      refine (count_any _ wr).mono ?_
      rintro e w3 ⟨rfl, rfl⟩
      have hci : cntI (t.length : Int) = ((cntN t.length : Nat) : Int) := by unfold cntI; rw [if_neg (by omega), Int.toNat_natCast]
      rw [hci]
      have hc := cntN_pos ht8
      obtain ⟨cn, hcn⟩ : ∃ cn, cn = cntN t.length := ⟨_, rfl⟩
      rw [← hcn] at hc ⊢
      have HCN := Lib.hid hcn
      clear hcn hci cx
      obtain ⟨a0, ha0⟩ : ∃ a0, a0 = secs ((texts j).take hit) := ⟨_, rfl⟩
      rw [← ha0] at hs1 ⊢
      have HA0 := Lib.hid ha0
      clear ha0
      have HT := Lib.hid ht
      clear ht
      have hm1 := run_makeMap (P := Tryz.prog) 45 w3
      obtain ⟨W0, hW0⟩ : ∃ W0, w3.alloc (.map #[] 0) = W0 := ⟨_, rfl⟩
      obtain ⟨M, hM⟩ : ∃ M, M = w3.heap.size := ⟨_, rfl⟩
      have hD : Tm W0 M [] := by rw [← hW0, hM]; exact IMap.new w3
      have hb3 : Below w3.heap.size w3 W0 := by rw [← hW0]; exact alloc_below _ _
      rw [hW0, ← hM] at hm1
      have HM : Hid (M = w3.heap.size ∧ M < W0.heap.size) := Lib.hid ⟨hM, hD.lt⟩
      clear hW0 hM
      have HB3 := Lib.hid (HB2.out.trans (hb3.mono HB2.out.size))
      have HC3 := Lib.hid (HC2.out.below hb3 HG2.out)
      have HG3 := Lib.hid (Nat.lt_of_lt_of_le HG2.out hb3.size)
      have HRT3 := Lib.hid (own_below HRT2.out hb3)
      have HMF : Hid (M ∉ f.all ∧ w.heap.size ≤ M) := Lib.hid ⟨fun hx => by have := HP2.out.lt M hx; have := HM.out.1; omega, by have := HB2.out.size; have := HM.out.1; omega⟩
      have HGM : Hid (g < M) := Lib.hid (by rw [HM.out.1]; exact HG2.out)
      have HROOM : Hid (a0 + cn ≤ d.s.length) := Lib.hid (by rw [HA0.out, HCN.out]; exact HIN.out.room HT.out)
      have HI0 : Hid (RotI W0 W0 f d a0 cn 0 M [] d) := Lib.hid ⟨hD, HP2.out.below hb3, Turned.start HIN.out.quiet HIN.out.i2.inv.off a0, fun p hp => (by cases hp), fun h => absurd h (by decide), Chg.refl _ _⟩
      clear hD hb3 HB2 HC2 HG2 HRT2 HP2
      go_wp2_with fail
      clear hm1
      go_loopw [92] (fun c wr => ∃ (q : Nat) (tl : List (Nat × Nat)) (d' : DS), q ≤ bs.length ∧ c = .int .i64 q ∧ Hid (RotI W0 wr f d a0 cn q M tl d')) (fun c _ => bs.length - (jInt c).toNat)
      case atStart => exact ⟨0, [], d, Nat.zero_le _, rfl, HI0⟩
      case round =>
        clear HI0
        obtain ⟨q, tl, d', hq, rfl, HI⟩ := hrel
        by_cases hql : q < bs.length
        · have hqi : ((q : Int) < bs.length) = True := eq_true (by omega)
          obtain ⟨b, hb⟩ : ∃ b, bs[q]? = some b := ⟨_, List.getElem?_eq_getElem hql⟩
          have hb16 := H16.out b (List.mem_of_getElem? hb)
          obtain ⟨gb, ob, rfl, hCb, hgb⟩ : ∃ gb ob, sb = some ⟨gb, ob, none⟩ ∧ Cells w gb ob (bs.map fun z : Nat => .int .u16 (z : Int)) ∧ gb < w.heap.size := by
            obtain ⟨_, ⟨h2, h3⟩ | ⟨b, off, cap', h2, h3, h4, h5, h6⟩⟩ := HPS.out
            · omega
            · injection h2 with h2 _ h2c
              exact ⟨b, off, h2, h5, h6⟩
          have hWr : Below w.heap.size w wr := HB3.out.trans (HI.out.ch.below HB3.out.size fun x hx => by
            rcases List.mem_cons.1 hx with rfl | hx
            · exact HMF.out.2
            · exact HFA.out x hx)
          have cx : wr.cell? ⟨gb, ob + q, none⟩ = some (.int .u16 (b : Int)) := (hCb.below hWr hgb) q _ (by rw [List.getElem?_map, hb]; rfl)
          have HWr := Lib.hid hWr
          clear hWr hCb hb
          go_upto_region 18 with (fail)
          obtain ⟨i, hi⟩ : ∃ i, i = b / 512 % cn := ⟨_, rfl⟩
          have hic : i < cn := by rw [hi]; exact Nat.mod_lt _ (by omega)
          have hix : (b : Int) / 512 % max 1 (cn : Int) = (i : Int) := by
            rw [hi, Int.max_eq_right (by omega), Int.natCast_emod, Int.natCast_ediv]
            rfl
          rw [hix]
          clear hi hix
          have hlk := HI.out.map.look i
          have hroom := HROOM.out
          obtain ⟨c0, hc0⟩ : ∃ c0, c0 = (tl.map Prod.fst).contains i := ⟨_, rfl⟩
          rw [← hc0] at hlk
          have HIC : Hid (i < cn) := Lib.hid hic
          clear hic
          have HC0 := Lib.hid hc0
          clear hc0
          cases c0 with
          | true =>
            go_wp2
            go_roundw
            case rel => exact ⟨q + 1, tl, d', by omega, by go_num, Lib.hid { HI.out with ne := fun _ h => by have := HC0.out; rw [h] at this; cases this }⟩
            case measure => simp [jInt]; omega
          | false =>
            have hno : i ∉ tl.map Prod.fst := fun h => by have := HC0.out; rw [List.contains_iff_mem.2 h] at this; cases this
            have HNO := Lib.hid hno
            clear hno
            go_wp2_with (refine wpList_mapUpdate_imap (k := (i : Int)) (v := .bool true) HI.out.map rfl rfl rfl rfl rfl rfl hTw2 hKi ?_)
            intro w4 hm4 hc4 hs4
            rw [tm_set tl i (b % 512) HNO.out] at hm4
            have HM4 := Lib.hid hm4
            have HP4 := Lib.hid (HI.out.pd.chg hc4 fun x hx hm => HMF.out.1 (by have : x = M := by simpa using hm
                                                                                rw [← this]; exact hx))
            have HC4 := Lib.hid (HI.out.ch.trans (hc4.mono (F' := M :: f.all) fun x hx => by simp at hx; simp [hx]))
            clear hm4 hc4 hs4 hlk
            have hi2 : (i : Int) < 200 := by have := HIC.out; omega
            have hrot := rot_any f d' ((a0 : Int) + i) ((b : Int) % 512) w4 HP4.out
            obtain ⟨tr1, tr2⟩ := HI.out.tu.rot (i := i) (b := b % 512) (by rw [HI.out.tu.len]; have := HIC.out; omega) (by omega) (fun p hp e => HNO.out (List.mem_map.2 ⟨p, hp, e⟩))
            rw [show ((a0 + i : Nat) : Int) = (a0 : Int) + i from Int.natCast_add _ _, show ((b % 512 : Nat) : Int) = (b : Int) % 512 from Int.natCast_emod _ _] at tr1 tr2
            rw [tr1] at hrot
            have HROT := Lib.hid hrot
            have HTR := Lib.hid tr2
            clear hrot tr1 tr2
            go_wp2_with fail
            refine HROT.out.mono ?_
            rintro e w5 ⟨rfl, hP5, hc5⟩
            have HN : Hid (RotI W0 w5 f d a0 cn (q + 1) M (tl ++ [(i, b % 512)]) (arot d' ((a0 : Int) + i) ((b : Int) % 512)).2) := Lib.hid
              { map := IMap.chg HM4.out hc5 HMF.out.1
                pd := hP5
                tu := HTR.out
                lt := fun p hp => by
                  rcases List.mem_append.1 hp with hp | hp
                  · exact HI.out.lt p hp
                  · obtain rfl : p = (i, b % 512) := by simpa using hp
                    exact ⟨HIC.out, Nat.mod_lt _ (by decide)⟩
                ne := fun _ h => by simp at h
                ch := HC4.out.trans (hc5.mono (F' := M :: f.all) fun x hx => List.mem_cons_of_mem _ hx) }
            clear hP5 hc5 HROT
            go_wp2
            go_roundw
            case rel => exact ⟨q + 1, _, _, by omega, by go_num, HN⟩
            case measure => simp [jInt]; omega
        · obtain rfl : bs.length = q := by omega
          have hqi : ((bs.length : Int) < bs.length) = False := eq_false (by omega)
          have hWr : Below w.heap.size w wr := HB3.out.trans (HI.out.ch.below HB3.out.size fun x hx => by
            rcases List.mem_cons.1 hx with rfl | hx
            · exact HMF.out.2
            · exact HFA.out x hx)
          have HWr := Lib.hid hWr
          clear hWr
          have hgn : g ∉ M :: f.all := by
            intro hx
            rcases List.mem_cons.1 hx with hx | hx
            · have h1 := HGM.out
              omega
            · exact HAP.out g rfl hx
          have hnm : ∀ x, (Value.slice (some ⟨g, o, none⟩) j.rs.length vtc).ownBlock = some x → x ∉ M :: f.all := fun x hx => by
            have e : g = x := by simpa [Value.ownBlock] using hx
            rw [← e]; exact hgn
          have HRT4 := Lib.hid (own_chg HRT3.out HI.out.ch hnm)
          clear hgn hnm HRT3
          have himl : (aimage d'.s).length = d'.s.length := by unfold aimage; rw [List.length_map]
          have hok := HI.out.pd.ok
          have him4 : (aimage d'.s).length ≤ 1000000 := by rw [himl]; have := hok.most; omega
          have him64 : ∀ y ∈ aimage d'.s, y.length ≤ 64 := by
            unfold aimage
            intro y hy
            obtain ⟨z, hz, rfl⟩ := List.mem_map.1 hy
            exact Nat.le_of_eq (hok.t z hz)
          have him := image_any f d' wr HI.out.pd
          rw [← himl] at him
          have HIM := Lib.hid him; clear him hok himl
          have HIM4 := Lib.hid him4; clear him4
          have HIM64 := Lib.hid him64; clear him64
          have hts8 : ∀ t ∈ texts j, t.length ≤ 1000000 := fun t ht => by have := HH8.out t ht; omega
          have HTS8 := Lib.hid hts8; clear hts8
          go_wp2_with fail
          refine HIM.out.mono ?_
          rintro e w5 ⟨vI, rfl, hSI, _, b5⟩
          obtain ⟨sI, cI, rfl, _⟩ := sl_slice hSI
          have HWr5 := Lib.hid (HWr.out.trans (b5.mono HWr.out.size))
          have HRT5 := Lib.hid (own_below HRT4.out b5)
          have HP5 := Lib.hid (HI.out.pd.below b5)
          have HTM5 : Hid (Tm w5 M tl) := Lib.hid (IMap.below HI.out.map b5)
          clear b5 HRT4 HIM
          have hgen := genuine_any w5 (aimage d'.s) (texts j) sI (some ⟨g, o, none⟩) cI vtc hSI (by have := Sl.of_owns HRT5.out; rw [HTL.out]; exact this) HIM4.out (by rw [HTL.out]; omega) HIM64.out HTS8.out (HRR.out.below HWr5.out HL0W.out) (Nat.lt_of_lt_of_le HL0W.out HWr5.out.size)
          rw [HTL.out] at hgen
          have HGEN := Lib.hid hgen; clear hgen hSI
          cases hgb : genB (aimage d'.s) (texts j) with
          | false =>
            have hg0 := HGEN.out
            rw [hgb] at hg0
            clear hgb
            go_wp2_with fail
            refine hg0.mono ?_
            rintro e w6 ⟨rfl, b6⟩
            clear hg0
            have HB6 := Lib.hid (HWr5.out.trans (b6.mono HWr5.out.size)); clear b6
            go_wp2_with fail
            refine (sanity_any w6 (HK.out.below HB6.out HL1W.out) (Nat.lt_of_lt_of_le HL1W.out HB6.out.size)).mono ?_
            rintro e w7 ⟨rfl, b7⟩
            have HB7 := Lib.hid (HB6.out.trans (b7.mono HB6.out.size)); clear b7
            go_wp2
            go_ret
            exact ⟨rfl, HB7.out⟩
          | true =>
            have hlaw := rot_law HIN.out (by omega) (hit := hit) (by have := HTL.out; omega) (l := tl) (d := d') (by have := HI.out.tu; rw [HA0.out] at this; exact this) (fun p hp => by
              have h9 := HI.out.lt p hp
              rw [HCN.out] at h9
              have h8 := (List.getElem?_eq_some_iff.1 HT.out)
              rw [h8.2]; exact h9) (HI.out.ne (by omega)) hgb
            have HLAW := Lib.hid hlaw; clear hlaw
            have hg0 := HGEN.out
            rw [hgb] at hg0
            clear hgb
            go_wp2_with fail
            refine hg0.mono ?_
            rintro e w6 ⟨rfl, b6⟩
            clear hg0
            have HB6 := Lib.hid (HWr5.out.trans (b6.mono HWr5.out.size))
            have HRT6 := Lib.hid (own_below HRT5.out b6)
            have HP6 := Lib.hid (HP5.out.below b6)
            have HTM6 : Hid (Tm w6 M tl) := Lib.hid (IMap.below HTM5.out b6)
            clear b6 HRT5 HP5 HTM5 HGEN HWr5
            have ho := open_any f d' w6 HP6.out HI.out.tu.off (HK.out.below HB6.out HL1W.out) (Nat.lt_of_lt_of_le HL1W.out HB6.out.size)
            have HO := Lib.hid ho; clear ho
            go_wp2_with fail
            refine HO.out.mono ?_
            rintro e w7 ⟨J, rfl, hJ, _, b7⟩
            clear HO
            obtain ⟨kj, hkj⟩ : ∃ kj, kj = found (d'.s.map cont) := ⟨_, rfl⟩
            rw [show parts0 d' = d'.s.map cont from rfl, ← hkj] at hJ
            have hlw := HLAW.out
            rw [← hkj] at hlw
            have HLW := Lib.hid hlw; clear hlw HLAW hkj
            have HJ7 := Lib.hid hJ; clear hJ
            have HB7 := Lib.hid (HB6.out.trans (b7.mono HB6.out.size))
            have HRT7 := Lib.hid (own_below HRT6.out b7)
            have HTM7 : Hid (Tm w7 M tl) := Lib.hid (IMap.below HTM6.out b7)
            clear b7 HRT6 HP6 HTM6 HB6
            have hs1 : Sl w7 1 (.slice (some ⟨g, o, none⟩) hit vtc) hit (((texts j).take hit).map str) := by
              obtain ⟨e1, ⟨h2, h3⟩ | ⟨b, off, cap', h2, h3, h4, h5, h6⟩⟩ := Sl.of_owns HRT7.out
              · cases h2
              · obtain ⟨rfl, rfl, rfl⟩ : g = b ∧ o = off ∧ vtc = cap' := by
                  injection h2 with x1 x2 x3
                  injection x1 with x1
                  injection x1 with x4 x5
                  exact ⟨x4, x5, x3⟩
                refine ⟨by rw [List.length_map, List.length_take, HTL.out]; omega, .inr ⟨g, o, vtc, rfl, by omega, h4, fun i v hi => ?_, h6⟩⟩
                rw [List.map_take, List.getElem?_take] at hi
                split at hi
                · exact h5 i v hi
                · cases hi
            have HS1 := Lib.hid hs1; clear hs1
            have hs2 : 0 < j.rs.length - (hit + 1) → Sl w7 1 (.slice (if vtc = hit + 1 then some ⟨g, o, none⟩ else some ⟨g, o + (hit + 1), none⟩) (j.rs.length - (hit + 1)) (vtc - (hit + 1))) (j.rs.length - (hit + 1)) (((texts j).drop (hit + 1)).map str) := by
              intro hpos
              obtain ⟨e1, ⟨h2, h3⟩ | ⟨b, off, cap', h2, h3, h4, h5, h6⟩⟩ := Sl.of_owns HRT7.out
              · cases h2
              · obtain ⟨rfl, rfl, rfl⟩ : g = b ∧ o = off ∧ vtc = cap' := by
                  injection h2 with x1 x2 x3
                  injection x1 with x1
                  injection x1 with x4 x5
                  exact ⟨x4, x5, x3⟩
                rw [if_neg (by omega)]
                refine ⟨by rw [List.length_map, List.length_drop, HTL.out]; omega, .inr ⟨g, o + (hit + 1), vtc - (hit + 1), rfl, by omega, by omega, fun i v hi => ?_, h6⟩⟩
                rw [List.map_drop, List.getElem?_drop] at hi
                have := h5 (hit + 1 + i) v hi
                rw [show o + (hit + 1) + i = o + (hit + 1 + i) by omega]
                exact this
            have HS2 := Lib.hid hs2; clear hs2
            go_upto_region 28 with (fail)
            haveI : Nonempty (SqC.Come fun W' : World => w7.heap.size ≤ W'.heap.size) := ⟨⟨w7, Nat.le_refl _⟩⟩
            refine SqC.wp_region_sqc 11 [0, 4, 9] (fun W' : World => w7.heap.size ≤ W'.heap.size) (by kernel_rfl) (by kernel_rfl) (by kernel_rfl) (Nat.le_refl _) ?_
            obtain ⟨w8, hw8⟩ : ∃ w8, w8 = w7.drew := ⟨_, rfl⟩
            have HB8 : Hid (Below w7.heap.size w7 w8) := Lib.hid (by rw [hw8]; exact (Below.refl w7.heap.size w7).drew)
            first | rw [← hw8] | skip
            clear hw8
            have hT1 : (hit : Int) + 1 ≤ j.rs.length := by omega
            have hTc : (j.rs.length : Int) ≤ vtc := by omega
            have hT0 : (0 : Int) ≤ hit + 1 := by omega
            refine SqC.effectW rfl rfl ?_
            go_wp2
            obtain ⟨w9, hw9⟩ : ∃ w9, w9 = w8.alloc (.cells #[] 9) := ⟨_, rfl⟩
            obtain ⟨b0, hb0⟩ : ∃ b0, b0 = w8.heap.size := ⟨_, rfl⟩
            have HB9 : Hid (Below w7.heap.size w7 w9) := Lib.hid (by rw [hw9]; exact HB8.out.alloc HB8.out.size _)
            have HOW9 : Hid (w9.ownsRow w7.heap.size 9 1 (.slice (some ⟨b0, 0, none⟩) 0 0) 0 []) := Lib.hid (by rw [hw9, hb0]; exact own_new w8 #[] 9 0 _ rfl (by decide) HB8.out.size)
            rw [← hw9, ← hb0]
            clear hw9 hb0
            refine SqC.here rfl (fun _ => HB9.out.size) ?_
            first | simp only [Act.put, List.setIfInBounds_toArray, List.set_cons_zero, List.set_cons_succ] | skip
            refine SqC.quiet rfl rfl ?_
            go_big_quiet_step (fail)
            refine wpQuiet_nil ?_
            refine SqC.quiet rfl rfl ?_
            go_big_quiet_step (fail)
            refine wpQuiet_nil ?_
            refine SqC.quiet rfl rfl ?_
            go_big_quiet_step (fail)
            refine wpQuiet_nil ?_
            refine SqC.effectW rfl rfl ?_
            refine wpList_append_szg rfl _ _ 22 rfl w7.heap.size 9 (str []) 16 hTss infoStr rfl (.slice (some ⟨b0, 0, none⟩) 0 0) 0 [] rfl HOW9.out (some ⟨g, o, none⟩) hit vtc (((texts j).take hit).map str) rfl (fun _ => HS1.out.below HB9.out) (by rw [List.length_map, List.length_take, HTL.out]; omega) (by intro u hu; obtain ⟨y, _, rfl⟩ := List.mem_map.1 hu; rfl) (by unfold maxLen; omega) (by omega) HB9.out.size ?_
            intro v1 w10 ow1 gr1 lo1
            have HB10 : Hid (Below w7.heap.size w7 w10) := Lib.hid (grown_below (base := w7.heap.size) HB9.out HOW9.out gr1 HB9.out.size)
            have HOW10 : Hid (w10.ownsRow w7.heap.size 9 1 v1 hit (((texts j).take hit).map str)) := Lib.hid (by simpa using ow1)
            clear ow1 gr1 lo1 HOW9
            obtain ⟨s1, c1, rfl, _⟩ := own_slice HOW10.out
            refine SqC.here rfl (fun _ => HB10.out.size) ?_
            first | simp only [Act.put, List.setIfInBounds_toArray, List.set_cons_zero, List.set_cons_succ] | skip
            refine SqC.quiet rfl rfl ?_
            go_big_quiet_step (fail)
            refine wpQuiet_nil ?_
            refine SqC.quiet rfl rfl ?_
            go_big_quiet_step (fail)
            refine wpQuiet_nil ?_
            refine SqC.quiet rfl rfl ?_
            go_big_quiet_step (fail)
            refine wpQuiet_nil ?_
            refine SqC.quiet rfl rfl ?_
            go_big_quiet_step (fail)
            refine wpQuiet_nil ?_
            obtain ⟨sx, hsx⟩ : ∃ sx : Option Addr, sx = (if vtc = hit + 1 then some ⟨g, o, none⟩ else some ⟨g, o + (hit + 1), none⟩) := ⟨_, rfl⟩
            have HS3 : Hid (0 < j.rs.length - (hit + 1) → Sl w7 1 (.slice sx (j.rs.length - (hit + 1)) (vtc - (hit + 1))) (j.rs.length - (hit + 1)) (((texts j).drop (hit + 1)).map str)) := Lib.hid (by rw [hsx]; exact HS2.out)
            rw [← hsx]
            clear hsx HS2
            refine SqC.effectW rfl rfl ?_
            refine wpList_append_szg rfl _ _ 22 rfl w7.heap.size 9 (str []) 16 hTss infoStr rfl (.slice s1 hit c1) hit (((texts j).take hit).map str) rfl HOW10.out sx (j.rs.length - (hit + 1)) (vtc - (hit + 1)) (((texts j).drop (hit + 1)).map str) rfl (fun h => (HS3.out h).below HB10.out) (by rw [List.length_map, List.length_drop, HTL.out]) (by intro u hu; obtain ⟨y, _, rfl⟩ := List.mem_map.1 hu; rfl) (by unfold maxLen; omega) (by omega) HB10.out.size ?_
            intro v2 w11 ow2 gr2 lo2
            have HB11 : Hid (Below w7.heap.size w7 w11) := Lib.hid (grown_below (base := w7.heap.size) HB10.out HOW10.out gr2 HB10.out.size)
            have hkl : (texts kj).length = hit + (j.rs.length - (hit + 1)) := by rw [HLW.out.1, List.length_append, List.length_take, List.length_drop, HTL.out]; omega
            have hkm : (texts kj).map str = ((texts j).take hit).map str ++ ((texts j).drop (hit + 1)).map str := by rw [HLW.out.1, List.map_append]
            have HOW11 : Hid (w11.ownsRow w7.heap.size 9 1 v2 (texts kj).length ((texts kj).map str)) := Lib.hid (by rw [hkl, hkm]; exact ow2)
            have HKL : Hid ((texts kj).length ≤ 12) := Lib.hid (by rw [hkl]; omega)
            clear ow2 gr2 lo2 HOW10 hkl hkm
            obtain ⟨s2, c2, rfl, _⟩ := own_slice HOW11.out
            refine SqC.here rfl (fun _ => HB11.out.size) ?_
            first | simp only [Act.put, List.setIfInBounds_toArray, List.set_cons_zero, List.set_cons_succ] | skip
            refine SqC.quiet rfl rfl ?_
            go_big_quiet_step (fail)
            refine wpQuiet_nil ?_
            refine SqC.nil ?_
            have HJ11 := Lib.hid (HJ7.out.below HB11.out)
            have HTM11 : Hid (Tm w11 M tl) := Lib.hid (IMap.below HTM7.out HB11.out)
            have HBW11 := Lib.hid (HB7.out.trans (HB11.out.mono HB7.out.size))
            clear HS1 HS3 HB8 HB9 HB10 HB11 HRT7 HJ7 HTM7
            go_wp2_with fail
            refine (texts_any HJ11.out).mono ?_
            rintro e w12 ⟨vF, rfl, oF, b12⟩
            have HOF := Lib.hid (Sl.of_owns oF); clear oF
            have HOW12 := Lib.hid (Sl.of_owns (own_below HOW11.out b12))
            have HJ12 := Lib.hid (HJ11.out.below b12)
            have HTM12 : Hid (Tm w12 M tl) := Lib.hid (IMap.below HTM11.out b12)
            have HBW12 := Lib.hid (HBW11.out.trans (b12.mono HBW11.out.size)); clear b12 HJ11 HTM11 HOW11
            go_wp2_with fail
            refine (sameT_any (texts kj) vF _ w12 HOF.out HOW12.out (by have := HKL.out; omega)).mono ?_
            rintro e w13 ⟨rfl, b13⟩
            have HJ13 := Lib.hid (HJ12.out.below b13)
            have HTM13 : Hid (Tm w13 M tl) := Lib.hid (IMap.below HTM12.out b13)
            have HBW13 := Lib.hid (HBW12.out.trans (b13.mono HBW12.out.size)); clear b13 HJ12 HTM12 HOW12 HOF
            have hb1 : ((kj.bad.length : Int) = 0) = False := eq_false (by have := HLW.out.2.1; omega)
            have hb2 : ((kj.bad.length : Int) == 0) = false := beq_eq_false_iff_ne.2 (by have := HLW.out.2.1; omega)
            have hb3 : ((tl.length : Int) < kj.bad.length) = False := eq_false (by have := HLW.out.2.2.1; omega)
            go_wp2_with fail
            refine (bad_any HJ13.out).mono ?_
            rintro e w14 ⟨vB, rfl, oB, b14⟩
            obtain ⟨s14, c14, rfl, _⟩ := own_slice oB
            have HJ14 := Lib.hid (HJ13.out.below b14)
            have HTM14 : Hid (Tm w14 M tl) := Lib.hid (IMap.below HTM13.out b14)
            have HBW14 := Lib.hid (HBW13.out.trans (b14.mono HBW13.out.size)); clear b14 HJ13 HTM13 oB
            go_wp2_with fail
            refine (bad_any HJ14.out).mono ?_
            rintro e w15 ⟨vB2, rfl, oB, b15⟩
            obtain ⟨s15, c15, rfl, _⟩ := own_slice oB
            have HJ15 := Lib.hid (HJ14.out.below b15)
            have hln := Tm.len (IMap.below HTM14.out b15) 3
            have HBW15 := Lib.hid (HBW14.out.trans (b15.mono HBW14.out.size)); clear b15 HJ14 HTM14 oB
            go_wp2_with fail
            refine (sanity_any w15 (HK.out.below HBW15.out HL1W.out) (Nat.lt_of_lt_of_le HL1W.out HBW15.out.size)).mono ?_
            rintro e w16 ⟨rfl, b16⟩
            have HJ16 := Lib.hid (HJ15.out.below b16)
            have HBW16 := Lib.hid (HBW15.out.trans (b16.mono HBW15.out.size)); clear b16 HJ15 hln hb1 hb2 hb3
            by_cases hlast : hit + 1 = j.rs.length
            · have e1 : ((hit : Int) = j.rs.length - 1) = True := eq_true (by omega)
              have e2 : ((hit : Int) == j.rs.length - 1) = true := by simp; omega
              go_wp2
              go_ret
              exact ⟨rfl, HBW16.out⟩
            · have e1 : ((hit : Int) = j.rs.length - 1) = False := eq_false (by omega)
              have e2 : ((hit : Int) == j.rs.length - 1) = false := by simp; omega
              have hdm := HLW.out.2.2.2 (by rw [HTL.out]; exact hlast)
              have hda := damaged_any HJ16.out
              rw [hdm] at hda
              have HDA := Lib.hid hda; clear hda hdm
              go_wp2_with fail
              refine HDA.out.mono ?_
              rintro e w17 ⟨vD, rfl, oD, b17⟩
              obtain ⟨s17, c17, rfl, _⟩ := own_slice oD
              have HOD := Lib.hid (Sl.of_owns oD); clear oD HDA
              have HBW17 := Lib.hid (HBW16.out.trans (b17.mono HBW16.out.size)); clear b17
              have ei : intsV [hit + 1] = [.int .i64 ((hit : Int) + 1)] := rfl
              have hss := sameN_any [hit + 1] (.slice s17 1 c17) (.slice (some ⟨w17.heap.size, 0, none⟩) 1 1) (w17.alloc (.cells #[.int .i64 ((hit : Int) + 1)] 3)) (HOD.out.below (alloc_below _ _)) (by rw [ei]; exact sl_new w17 _ _ 1 rfl (by decide)) (by simp)
              have HSS := Lib.hid hss
              clear hss ei
              go_wp2_with fail
              refine HSS.out.mono ?_
              rintro e w18 ⟨rfl, b18⟩
              have HB18 := Lib.hid (HBW17.out.trans (((alloc_below w17 _).trans (b18.mono (alloc_below w17 _).size)).mono HBW17.out.size)); clear b18 HSS
              go_wp2
              go_ret
              exact ⟨rfl, HB18.out⟩
end Go.Proofs.YtbmnbdkbgpajeaaGreatDoor
end
/- JournalFindsRot: the row: for every input the law returns true and leaves its arguments alone. Conditions: the row's own, nothing more. -/
section
namespace Go.Proofs.YtbmnbdkbgpajeaaGreatDoor
open Go.ChangeShapes Go.WideShapes Go.ChangeAt Go.WideMaps Go.WideElems Go.RowKit Go.Sha Go.Own Go.ChangeMaps
theorem words16_of : ∀ zs : List Int, (∀ z ∈ zs, (Lit.int IntKind.u16 z).wf = true) → ∃ bs : List Nat, zs = bs.map (fun n : Nat => (n : Int)) ∧ ∀ b ∈ bs, b < 65536
  | [], _ => ⟨[], rfl, fun b hb => by cases hb⟩
  | z :: zs, h => by
    obtain ⟨bs, h1, h2⟩ := words16_of zs fun x hx => h x (List.mem_cons_of_mem _ hx)
    have hz := h z (List.mem_cons_self ..)
    have hz2 : 0 ≤ z ∧ z < 65536 := by
      have h3 : IntKind.u16.min ≤ z ∧ z ≤ IntKind.u16.max := by simpa [Lit.wf] using hz
      have e1 : IntKind.u16.min = 0 := rfl
      have e2 : IntKind.u16.max = 65535 := rfl
      omega
    refine ⟨z.toNat :: bs, ?_, fun b hb => ?_⟩
    · rw [List.map_cons, ← h1, Int.toNat_of_nonneg hz2.1]
    · rcases List.mem_cons.1 hb with rfl | hb
      · omega
      · exact h2 b hb
set_option maxRecDepth 100000 in
theorem journalFindsRot_lifted (os : Os) (started : os.Started) (H : Type) (enc : TypeId × Value → H) :
    ReturnsInHanded {} Tryz.checked os 4 .any (fun w args => (Rows.journalFindsRotSpec.pre enc Tryz.prog Tryz.f4 [] false w args ∧ laidMetH Tryz.prog lay2 w) ∧ sizedMet enc Tryz.prog Tryz.f4 (OpenSpec.ofChange Rows.journalFindsRotSpec) false w args)
      (Rows.journalFindsRotSpec.post enc Tryz.prog Tryz.f4 false true false false) := by
  refine returnsInHanded_of_change_and (C := Tryz.checked) (X := fun w _ => laidMetH Tryz.prog lay2 w) (fun _ _ _ hh h => h.of_heap hh) ownK started (by kernel_rfl) Tryz.func4
    (ChangeSpec.witness_shaped (enc := enc) (C := Tryz.checked) (os := os) (X := fun w _ => laidMetH Tryz.prog lay2 w) false (World.doorLaid Tryz.prog 4000 os) #[.int .i64 0, .slice none 0 0, .int .u8 0, .slice none 0 0] 8 rfl (World.shaped_of_RefB (by kernel_rfl) (by kernel_rfl)) (by kernel_rfl) (by kernel_rfl) (by kernel_rfl) (door_met2 os _)) ?_
  intro W base args ds gs before hval0 hW _ hq hL hSz
  have hval : ∀ (j : Nat) t v, Tryz.f4.params[j]? = some t → args[j]? = some v → Value.okWide Tryz.prog W .any base t v := hval0
  have hW' := hW
  obtain ⟨p, q, hA0, hV, rfl, hfz, hnd⟩ := hW
  have hA : DataW.TrodAll enc Tryz.prog W 0 (fun _ => true) true Tryz.f4.params.toList args.toList ds p := hA0
  rw [Tryz.params4] at hA hval
  obtain ⟨v0, v1, v2, v3, d0, d1, d2, d3, p0, p1, p2, p3, rfl, rfl, rfl, h0, h1, h2, h3⟩ := trodAll_four hA
  obtain ⟨rfl, rfl⟩ := trodVars_none hV
  have k0 := hval 0 3 v0 rfl rfl
  obtain ⟨z0, rfl, rfl, rfl, wf0⟩ := open_int Tryz.underlying3 k0 h0
  have k1 := hval 1 40 v1 rfl rfl
  obtain ⟨l1, sa1, ca1, rfl, hs1⟩ := st_of k1 h1
  have k2 := hval 2 5 v2 rfl rfl
  obtain ⟨z2, rfl, rfl, rfl, wf2⟩ := open_int Tryz.underlying5 k2 h2
  obtain ⟨u2, rfl⟩ := byte_of wf2
  have k3 := hval 3 41 v3 rfl rfl
  obtain ⟨l3, hs3, hl3, hw3⟩ := sl_of_ints Tryz.underlying41 Tryz.underlying46 (show Tryz.prog.cellsOf 46 = 1 by kernel_rfl) k3 h3
  obtain ⟨bs, rfl, hb16⟩ := words16_of l3 hw3
  rw [List.map_map, List.length_map] at hs3
  obtain ⟨sa3, ca3, rfl, _⟩ := sl_slice hs3
  obtain ⟨⟨hR, hr⟩, hK, hk⟩ := of_laid2 hL
  have hw := findsRot_any W z0 l1 u2 bs sa1 sa3 ca1 ca3 hs1 hb16 hs3 hK hk hR hr
  refine hw.mono fun e W' ⟨he, hb⟩ => ?_
  subst he
  exact ⟨_, rfl, law_post laidOutK (by kernel_rfl) (show Tryz.f4.resultTypes = #[4] by kernel_rfl) Tryz.underlying4 rfl ⟨rfl, rfl, rfl⟩ hW' hb⟩
theorem findsRot_holds : Rows.JournalFindsRotSaid :=
  OpenClaim.holds_of_wide 4 Tryz.f4 rfl rfl rfl rfl rfl rfl rfl ⟨rfl, rfl, rfl, rfl, rfl⟩ rfl rfl rfl rfl rfl (by kernel_rfl) Tryz.func4 (by kernel_rfl)
    (of_decide_eq_true (by kernel_rfl)) (by unfold Func.isWrapper; first | (rw [if_pos (by decide +kernel)]; kernel_rfl) | (rw [if_neg (by decide +kernel)]; exact ⟨rfl, rfl⟩))
    (fun os started H enc _ => journalFindsRot_lifted os started H enc)
#print axioms findsRot_holds
end Go.Proofs.YtbmnbdkbgpajeaaGreatDoor
end
