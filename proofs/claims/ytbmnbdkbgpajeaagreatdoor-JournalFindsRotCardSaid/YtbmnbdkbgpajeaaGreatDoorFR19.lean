/- journal: Open: one sector is read. -/
import Derived.Test.YtbmnbdkbgpajeaaGreatDoorFR18
import Derived.Deep.CutBlock
/- journal: Open: one sector is read. -/
section
namespace Go.Proofs.YtbmnbdkbgpajeaaGreatDoor
open Go.RowKit Go.Own Go.Jn Go.Disk Go.BigFrame Go.Sha
attribute [local irreducible] SqW
attribute [local go_sem] setCell_twice str_size op_str_eql op_str_neq
/-- Behind k parts. -/
structure OpQ (PL : List Prt) (f : Ft) (G pg k : Nat) (a : List (Nat × List UInt8)) (vn vb vt : Value) (bk : List Nat) (nx fn : Nat) (w0 W : World) : Prop where
  head : Blk W G [.pointer (some ⟨f.p, 0, none⟩), vn, vb, vt, .int .i64 nx, .int .i64 fn, .bool false] 89
  parts : ∃ sp, Blk W pg (prts PL ++ sp) 94
  rn : W.ownsRow (G + 1) 3 1 vn a.length (intsV (a.map Prod.fst))
  rt : W.ownsRow (G + 1) 9 1 vt a.length ((a.map Prod.snd).map str)
  rb : W.ownsRow (G + 1) 3 1 vb bk.length (intsV bk)
  nb : ∀ b, vn.ownBlock = some b → vb.ownBlock ≠ some b
  sc : scanL (PL.drop k) a = scanL PL []
  al : a.length ≤ k
  low : Below G w0 W
theorem OpQ.below {PL : List Prt} {f : Ft} {G pg k : Nat} {a : List (Nat × List UInt8)} {vn vb vt : Value} {bk : List Nat} {nx fn : Nat} {w0 W W' : World} (h : OpQ PL f G pg k a vn vb vt bk nx fn w0 W) (hb : Below W.heap.size W W') : OpQ PL f G pg k a vn vb vt bk nx fn w0 W' := by
  obtain ⟨sp, hp⟩ := h.parts
  exact ⟨h.head.below hb h.head.lt, ⟨sp, hp.below hb hp.lt⟩, own_below h.rn hb, own_below h.rt hb, own_below h.rb hb, h.nb, h.sc, h.al, h.low.trans (hb.mono (Nat.le_of_lt h.head.lt))⟩
theorem blk_ty {w : World} {g : Nat} {l l' : List Value} {t t' : TypeId} (h : Blk w g l t) (h' : Blk w g l' t') : t = t' := by
  unfold Blk at h h'
  have := h.symm.trans h'
  injection this with this
  injection this
theorem OpQ.push {PL : List Prt} {f : Ft} {G pg q : Nat} {a : List (Nat × List UInt8)} {vn vb vt : Value} {bk : List Nat} {nx fn : Nat} {w0 W W' : World} (h : OpQ PL f G pg q a vn vb vt bk nx fn w0 W) (hc : Chg (ownF vn vt) W.drew W') {g1 c1 g2 c2 n q' : Nat} {t : List UInt8}
    (o1 : W'.ownsRow (G + 1) 3 1 (.slice (some ⟨g1, 0, none⟩) (a.length + 1) c1) (a.length + 1) (intsV (a.map Prod.fst) ++ [.int .i64 (n : Int)])) (n1 : vn.ownBlock = some g1 ∨ W.heap.size ≤ g1)
    (o2 : W'.ownsRow (G + 1) 9 1 (.slice (some ⟨g2, 0, none⟩) (a.length + 1) c2) (a.length + 1) ((a.map Prod.snd).map str ++ [str t]))
    (hs : scanL (PL.drop q') (a ++ [(n, t)]) = scanL PL []) (hl : a.length + 1 ≤ q') (hw : G ≤ W.heap.size) (hw0 : G ≤ w0.heap.size) :
    OpQ PL f G pg q' (a ++ [(n, t)]) (.slice (some ⟨g1, 0, none⟩) (a.length + 1) c1) vb (.slice (some ⟨g2, 0, none⟩) (a.length + 1) c2) bk nx fn w0 ((W'.setCell ⟨G, 1, none⟩ (.slice (some ⟨g1, 0, none⟩) (a.length + 1) c1)).setCell ⟨G, 3, none⟩ (.slice (some ⟨g2, 0, none⟩) (a.length + 1) c2)) := by
  obtain ⟨sp, hp⟩ := h.parts
  have hF : ∀ g ∈ ownF vn vt, G + 1 ≤ g := fun g hm => by
    simp only [ownF, List.mem_append, Option.mem_toList] at hm
    rcases hm with hm | hm
    · exact (h.rn.lt g hm).1
    · exact (h.rt.lt g hm).1
  have hpF : pg ∉ ownF vn vt := fun hm => by
    simp only [ownF, List.mem_append, Option.mem_toList] at hm
    rcases hm with hm | hm
    · exact own_blk_ne h.rn hp (by decide) hm
    · exact own_blk_ne h.rt hp (by decide) hm
  have hbF : ∀ b, vb.ownBlock = some b → b ∉ ownF vn vt := fun b hb hm => by
    simp only [ownF, List.mem_append, Option.mem_toList] at hm
    rcases hm with hm | hm
    · exact h.nb b hm hb
    · exact own_types h.rt h.rb (by decide) b hm hb
  have hpG : pg ≠ G := fun e => by
    subst e
    exact absurd (blk_ty hp h.head) (by decide)
  have hh := h.head.drew.chg hc (fun hm => by have := hF G hm; omega)
  have hpp := hp.drew.chg hc hpF
  have rb := own_chg (own_below h.rb ((Below.refl W.heap.size W).drew)) hc hbF
  have ne : ∀ {v : Value} {size n : Nat} {e : TypeId} {xs : List Value} {w : World}, w.ownsRow (G + 1) e size v n xs → ∀ b, v.ownBlock = some b → b ≠ G := fun ho b hb => by have := (ho.lt b hb).1; omega
  refine ⟨(hh.set 1 _).set 3 _, ⟨sp, (hpp.set_ne _ (by simpa using hpG)).set_ne _ (by simpa using hpG)⟩, ?_, ?_, own_set (own_set rb (fun b hb => by have := ne rb b hb; simpa using this)) (fun b hb => by have := ne rb b hb; simpa using this), ?_, hs, ?_, ?_⟩
  · have e : intsV ((a ++ [(n, t)]).map Prod.fst) = intsV (a.map Prod.fst) ++ [.int .i64 (n : Int)] := by simp [intsV]
    rw [e, List.length_append]
    exact own_set (own_set o1 (fun b hb => by have := ne o1 b hb; simpa using this)) (fun b hb => by have := ne o1 b hb; simpa using this)
  · have e : ((a ++ [(n, t)]).map Prod.snd).map str = (a.map Prod.snd).map str ++ [str t] := by simp
    rw [e, List.length_append]
    exact own_set (own_set o2 (fun b hb => by have := ne o2 b hb; simpa using this)) (fun b hb => by have := ne o2 b hb; simpa using this)
  · intro b hb hv
    injection hb with hb
    subst hb
    rcases n1 with n1 | n1
    · exact h.nb _ n1 hv
    · have h9 : g1 < W.heap.size := (h.rb.lt _ hv).2
      omega
  · rw [List.length_append]; exact hl
  · exact below_set (below_set (h.low.trans ((Below.refl G W).drew.trans (hc.below hw (fun x hx => by have := hF x hx; omega)))) hw0 (Nat.le_refl _) _ _) hw0 (Nat.le_refl _) _ _
set_option maxRecDepth 100000 in
set_option maxHeartbeats 4000000 in
theorem open_any (f : Ft) (d : DS) (w : World) (h : PD w f d) (hoff : d.off = false) (hK : Cells w 2 0 (Kt.map U)) (h1 : 2 < w.heap.size) :
    Calls Tryz.prog 12 #[.pointer (some ⟨f.p, 0, none⟩)] w fun e w' => ∃ J : Jf, e = .returned (.tuple #[.pointer (some ⟨J.g, 0, none⟩), .int .i64 0]) ∧ JM w' f J (found (parts0 d)) ∧ w.heap.size ≤ J.g ∧ Below w.heap.size w w' := by
  have hlt := h.lt
  have hok := h.ok
  obtain ⟨S, hS⟩ : ∃ S, S = parts0 d := ⟨_, rfl⟩
  have hSl : S.length = d.s.length := by rw [hS]; simp [parts0]
  have hS64 : ∀ s ∈ S, s.length = 64 := by rw [hS]; exact cont_len hok
  obtain ⟨N, hN⟩ : ∃ N, N = d.s.length := ⟨_, rfl⟩
  have hNm : N ≤ 4096 := by rw [hN]; exact hok.most
  have hrd : ∀ i, i < N → aread d (i : Int) = (S.getD i [], 0) := fun i hi => by rw [hS]; exact aread_at hoff (by omega)
  rw [← hN] at hSl
  have HS64 := Lib.hid hS64; clear hS64
  have HRD := Lib.hid hrd; clear hrd
  have HPD := Lib.hid h; clear h
  have HK := Lib.hid hK; clear hK
  have HLT := Lib.hid hlt; clear hlt
  have HS := Lib.hid hS; clear hS
  have hlen := len_any f d
  rw [← hN] at hlen
  have HLN := Lib.hid hlen; clear hlen
  have HN := Lib.hid hN; clear hN hok
  have HSL := Lib.hid hSl; clear hSl
  go_enter Tryz.func12, Tryz.ntmps12
  go_wp2_with fail
  obtain ⟨w1, hw1⟩ : ∃ w1, w.alloc (.cells #[.pointer (some ⟨f.p, 0, none⟩), .slice none 0 0, .slice none 0 0, .slice none 0 0, .int .i64 1, .int .i64 0, .bool false] 89) = w1 := ⟨_, rfl⟩
  have b1 : Below w.heap.size w w1 := by rw [← hw1]; exact alloc_below _ _
  have k1 : Blk w1 w.heap.size [.pointer (some ⟨f.p, 0, none⟩), .slice none 0 0, .slice none 0 0, .slice none 0 0, .int .i64 1, .int .i64 0, .bool false] 89 := by rw [← hw1]; exact Blk.new _ _ _
  rw [hw1]
  clear hw1
  refine (HLN.out w1 (HPD.out.below b1)).mono ?_
  rintro e w2 ⟨rfl, rfl⟩
  obtain ⟨G, hG⟩ : ∃ G, G = w.heap.size := ⟨_, rfl⟩
  rw [← hG] at b1 k1 h1 ⊢
  have hGw : G < w2.heap.size := k1.lt
  have hB1 := Lib.hid b1; clear b1
  have r0 : OpR S f G 0 (.slice none 0 0) (.slice none 0 0) w2 := ⟨k1, World.ownsRow_nil _ _ _ _, World.ownsRow_nil _ _ _ _⟩
  have R0 := Lib.hid r0; clear r0 k1
  have HG := Lib.hid hG; clear hG
  go_wp2_with fail
  go_loopw [5, 20] (fun v c wr => ∃ (k : Nat) (vb : Value), k ≤ N ∧ c = .int .i64 k ∧ Hid (OpR S f G k v vb wr) ∧ Hid (Below G w wr) ∧ G < wr.heap.size) (fun _ c _ => N - (jInt c).toNat)
  case atStart => exact ⟨0, _, Nat.zero_le _, rfl, R0, hB1, hGw⟩
  case round =>
    clear R0 hB1 hGw
    obtain ⟨k, vb, hk, rfl, hR, hbw, hGr⟩ := hrel
    obtain ⟨sv, cv, rfl, _⟩ := own_slice hR.out.row
    obtain ⟨sb, cb, rfl, _⟩ := own_slice hR.out.bad
    have hov : ∀ b, (Value.slice sv k cv).ownBlock = some b → G + 1 ≤ b ∧ b < wr.heap.size := fun b hb => hR.out.row.lt b hb
    have hob : ∀ b, (Value.slice sb (badK S k).length cb).ownBlock = some b → (Value.slice sv k cv).ownBlock ≠ some b := fun b h1 h2 => own_types hR.out.row hR.out.bad (by decide) b h2 h1
    have hbl := badK_le S k
    have HOV := Lib.hid hov; clear hov
    have HOB := Lib.hid hob; clear hob
    by_cases hlt : k < N
    · have hlc : (k : Int) < N := by omega
      obtain ⟨s, hs⟩ : ∃ s, s = S.getD k [] := ⟨_, rfl⟩
      have hrk := HRD.out k hlt
      have hkS : k < S.length := by rw [HSL.out]; exact hlt
      have hs2 : s = S[k] := by rw [hs, List.getD_eq_getElem?_getD, List.getElem?_eq_getElem hkS]; rfl
      rw [← hs] at hrk
      have hs64 : s.length = 64 := by rw [hs2]; exact HS64.out _ (List.getElem_mem hkS)
      have hread := read_any f d (k : Int) wr (HPD.out.below (by rw [← HG.out]; exact hbw.out))
      rw [hrk] at hread
      have HRR := Lib.hid hread; clear hread hrk
      have HS2 := Lib.hid hs2; clear hs2 hs
      have HS6 := Lib.hid hs64; clear hs64
      go_wp2_with fail
      refine HRR.out.mono ?_
      rintro e w3 ⟨rfl, b3⟩
      have HB3 := Lib.hid b3; clear b3 HRR
      go_wp2_with fail
      have hB03 : Below G wr w3 := HB3.out.mono (by omega)
      refine (unpack_any s (by rw [HS6.out]; decide) w3 (HK.out.below (hbw.out.trans hB03) h1) (by have := HB3.out.size; omega)).mono ?_
      obtain ⟨p, hp⟩ : ∃ p, p = Jn.unpack s := ⟨_, rfl⟩
      rw [← hp]
      unfold prtV
      rintro e w4 ⟨rfl, b4⟩
      have HP := Lib.hid hp; clear hp
      have HB4 := Lib.hid b4; clear b4
      go_wp2_with (refine wpList_store_blk (ty := 94) (n := 5) (vs := prtC p) (Blk.new _ _ 94) rfl rfl rfl rfl rfl infoPart rfl (by simp) (prtC_one _) ?_)
      intro w5 k5 o5
      have k5' : Blk w5 w4.heap.size (prtC p) 94 := by simpa using k5
      have b5 : Below wr.heap.size wr w5 := HB3.out.trans ((HB4.out.mono HB3.out.size).trans ((o5.below (alloc_below _ _) (Nat.le_refl _)).mono (Nat.le_trans HB3.out.size HB4.out.size)))
      have hR5 := hR.out.below b5
      have hbw5 : Below G w w5 := hbw.out.trans (b5.mono (by omega))
      have hP5 : wr.heap.size ≤ w4.heap.size := Nat.le_trans HB3.out.size HB4.out.size
      have lP5 : w4.heap.size < w5.heap.size := k5'.lt
      obtain ⟨P5, hP5e⟩ : ∃ P5, P5 = w4.heap.size := ⟨_, rfl⟩
      rw [← hP5e] at k5' hP5 lP5 ⊢
      clear k5 o5 b5 hP5e HB3 HB4 hbw hR hB03
      have HK5 := Lib.hid k5'; clear k5'
      have HBW := Lib.hid hbw5; clear hbw5
      obtain ⟨i, hi1, hi2, hi3, hi4⟩ := info_parts infoPart2
      have hrow := hR5.row
      have HRO := Lib.hid hR5; clear hR5
      have HROW := Lib.hid hrow; clear hrow
      have HI := Lib.hid (show i.zero = some (prtV prt0) ∧ i.size = 5 ∧ i.bytes = 48 from ⟨hi2, hi3, hi4⟩)
      have HI1 := Lib.hid hi1; clear hi1 hi2 hi3 hi4
      have hPG : G < P5 := by omega
      go_wp2_with (first | (refine wpList_load_agg [.int .i64 p.n, .int .i64 p.k, .int .i64 p.l, str p.b, .bool p.ok] HK5.out.cells0 rfl rfl rfl aggPart infoPart ?_) | (refine wpList_append_lies _ rfl _ _ 90 rfl (G + 1) 94 i (prtV prt0) 5 48 hTparts HI1.out HI.out.1 HI.out.2.1 HI.out.2.2 rfl (by decide) _ k _ rfl (own_below HROW.out (alloc_below _ _)) ⟨w5.heap.size, 0, none⟩ 1 1 (prtC p) rfl rfl (World.news_of_block (Blk.new w5 #[.int .i64 p.n, .int .i64 p.k, .int .i64 p.l, str p.b, .bool p.ok] 94)) (prtC_one _) (by decide) (by unfold maxLen; omega) (by omega) (by simp; omega) _ rfl ?_))
      intro g cap w7 g1 g2 g3 g4
      have hPp : (S.take (k + 1)).map Jn.unpack = (S.take k).map Jn.unpack ++ [p] := by rw [List.take_succ_eq_append_getElem hkS, List.map_append, HP.out, HS2.out]; rfl
      have w7r : w7.ownsRow (G + 1) 94 5 (.slice (some ⟨g, 0, none⟩) (k + 1) cap) (k + 1) (prts ((S.take (k + 1)).map Jn.unpack)) := by
        rw [hPp]
        unfold prts
        rw [List.flatMap_append]
        simpa [prts] using g1
      have w7h := (HRO.out.head.alloc (.cells #[.int .i64 p.n, .int .i64 p.k, .int .i64 p.l, str p.b, .bool p.ok] 94)).grown g2 (fun e => by have := (HOV.out G e.symm).1; omega)
      have w7b := own_far (own_below HRO.out.bad (alloc_below w5 (.cells #[.int .i64 p.n, .int .i64 p.k, .int .i64 p.l, str p.b, .bool p.ok] 94))) g2 (fun b hb e => HOB.out b hb e)
      have w7p := (HK5.out.alloc (.cells #[.int .i64 p.n, .int .i64 p.k, .int .i64 p.l, str p.b, .bool p.ok] 94)).grown g2 (fun e => by have := (HOV.out P5 e.symm).2; omega)
      have w7w : Below G w w7 := grown_below (base := G) (HBW.out.alloc (by omega) _) (own_weaken (own_below HROW.out (alloc_below w5 _)) (by omega)) g2 (by simp; omega)
      have w7s : G < w7.heap.size := w7h.lt
      have hgo : ∀ b, (Value.slice sb (badK S k).length cb).ownBlock = some b → b ≠ g := fun b hb e => by
        subst e
        rcases g3 with g3 | g3
        · exact HOB.out b hb g3
        · have := (own_below HRO.out.bad (alloc_below w5 (.cells #[.int .i64 p.n, .int .i64 p.k, .int .i64 p.l, str p.b, .bool p.ok] 94))).lt b hb
          have := HRO.out.bad.lt b hb
          omega
      have hgG : G + 1 ≤ g := by
        rcases g3 with g3 | g3
        · exact (HOV.out g g3).1
        · omega
      clear g1 g2 g3 hPp HROW HRO HBW HK5 HI HI1
      have W7R := Lib.hid w7r; clear w7r
      have W7H := Lib.hid w7h; clear w7h
      have W7B := Lib.hid w7b; clear w7b
      have W7P := Lib.hid w7p; clear w7p
      have W7W := Lib.hid w7w; clear w7w
      have HGO := Lib.hid hgo; clear hgo
      have d64 : ((s.length : Int) == 64) = true := by rw [HS6.out]; rfl
      have hbz : Jn.blank s = (s == Disk.zeros) := by rw [blank_zeros HS6.out, Bool.eq_iff_iff]; simp
      have harr := arrayAtS
      have HBZ := Lib.hid hbz; clear hbz
      go_upto_region 11 with (fail)
      refine wp_region_lit ?_
      go_wp2_with (refine wpList_of_yields rfl (yields_str_bytes (bs := s) rfl rfl hTs hTb hT8 (by rw [HS6.out]; decide) ?_))
      intro v W hv1 hv2 hv3
      obtain ⟨g8, o8, c8, rfl, hC8, hl8⟩ := sl_sec hv1 HS6.out
      have HV2 := Lib.hid hv2; clear hv1 hv2 hv3
      go_wp2_with (refine wpList_value_stop rfl (load_agg_exec rfl rfl (run_load_agg (P := Tryz.prog) (ty := 96) hC8 aggSec (by rw [List.length_map, HS6.out]; exact infoSec))) ?_)
      intro u hu
      obtain rfl := hu.out
      clear hu
      refine wpList_value_stop rfl (buildSec_exec rfl _) ?_
      intro u hu
      obtain rfl := hu.out
      clear hu
      refine wpList_value_stop rfl (eqlSec_exec (a := s) (b := Disk.zeros) rfl rfl rfl HS6.out rfl _) ?_
      intro u hu
      obtain rfl := hu.out
      clear hu
      simp only [Act.put, List.setIfInBounds_toArray, List.set_cons_zero, List.set_cons_succ]
      go_upto_if 50 with (fail)
      have bW : Below w7.heap.size w7 W := HV2.out
      have WR := Lib.hid (own_below W7R.out bW)
      have WH := Lib.hid (W7H.out.below bW W7H.out.lt)
      have WB := Lib.hid (own_below W7B.out bW)
      have WP := Lib.hid (W7P.out.below bW W7P.out.lt)
      have WW := Lib.hid (W7W.out.trans (bW.mono (Nat.le_of_lt w7s)))
      clear bW HV2 hC8 hl8 W7R W7H W7B W7P W7W d64 harr w7s
      have hfs : finK S (k + 1) = if Jn.blank s then finK S k else k + 1 := by rw [finK_succ hkS, HS2.out]
      rw [HBZ.out] at hfs
      have hbs := badK_succ hkS
      rw [← HS2.out, ← HP.out, HBZ.out] at hbs
      have hns := nextK_succ hkS
      rw [← HS2.out, ← HP.out] at hns
      have hnl := nextK_le S k
      have hfl := finK_le S k
      have HFS := Lib.hid hfs; clear hfs
      have HBS := Lib.hid hbs; clear hbs
      have HNS := Lib.hid hns; clear hns
      obtain ⟨nx, hnx⟩ : ∃ nx, nx = nextK S k := ⟨_, rfl⟩
      obtain ⟨bk, hbk⟩ : ∃ bk, bk = badK S k := ⟨_, rfl⟩
      obtain ⟨z, hz⟩ : ∃ z, z = (s == Disk.zeros) := ⟨_, rfl⟩
      obtain ⟨pn, hpn⟩ : ∃ pn, pn = p.n := ⟨_, rfl⟩
      have hpn2 : pn ≤ 4096 := by rw [hpn, HP.out]; exact unpack_n s
      rw [← hnx] at WH hnl HNS
      rw [← hbk] at WH WB HGO hbl HOB HBS
      rw [← hz] at HFS HBS ⊢
      rw [← hpn] at HNS
      have HNX := Lib.hid hnx; clear hnx
      have HBK := Lib.hid hbk; clear hbk
      have HPN := Lib.hid hpn; clear hpn
      have HZZ := Lib.hid hz; clear hz
      go_cut [] (fun wc => Hid (Blk wc G [.pointer (some ⟨f.p, 0, none⟩), .slice none 0 0, .slice sb bk.length cb, .slice none 0 0, .int .i64 nx, .int .i64 (finK S (k + 1)), .bool false] 89) ∧
        Hid (wc.ownsRow (G + 1) 94 5 (.slice (some ⟨g, 0, none⟩) (k + 1) cap) (k + 1) (prts ((S.take (k + 1)).map Jn.unpack))) ∧ Hid (wc.ownsRow (G + 1) 3 1 (.slice sb bk.length cb) bk.length (intsV bk)) ∧ Hid (Blk wc P5 (prtC p) 94) ∧ Hid (Below G w wc))
      case first =>
        cases z with
        | true =>
          have hh := WH.out
          rw [show finK S k = finK S (k + 1) from HFS.out.symm] at hh
          have HH := Lib.hid hh; clear hh WH
          go_wp2
          go_meet
          exact ⟨HH, WR, WB, WP, WW⟩
        | false =>
          have cf : W.frozen? ⟨G, 5, none⟩ = false := WH.out.frozen 5
          have cc : W.cell? ⟨G, 5, none⟩ = some (.int .i64 (finK S k)) := WH.out.cell rfl
          have e1 : (k : Int) + 1 = ((finK S (k + 1) : Nat) : Int) := by rw [HFS.out]; simp
          have E1 := Lib.hid e1; clear e1
          go_wp2
          go_meet
          rw [E1.out]
          refine ⟨Lib.hid (WH.out.set 5 _), Lib.hid (own_set WR.out (fun b hb => by have := WR.out.lt b hb; simp; omega)), Lib.hid (own_set WB.out (fun b hb => by have := WB.out.lt b hb; simp; omega)), Lib.hid (WP.out.set_ne _ (by simp; omega)), Lib.hid (below_set WW.out (by have := HG.out; omega) (Nat.le_refl _) _ _)⟩
      case rest =>
        obtain ⟨RH, RR, RB, RP, RW⟩ := hcut
        clear WR WH WB WP WW
        have q4 : wc.cell? ⟨P5, 4, none⟩ = some (.bool p.ok) := RP.out.cell rfl
        cases hpo : p.ok with
        | true =>
          rw [hpo] at q4
          have hbe := HBS.out
          rw [hpo, if_neg (by rintro ⟨h, _⟩; cases h), List.append_nil] at hbe
          have HBE := Lib.hid hbe; clear hbe hpo
          have cn : wc.cell? ⟨G, 4, none⟩ = some (.int .i64 nx) := RH.out.cell rfl
          have cp : wc.cell? ⟨P5, 0, none⟩ = some (.int .i64 pn) := by rw [HPN.out]; exact RP.out.cell rfl
          have cfr : wc.frozen? ⟨G, 4, none⟩ = false := RH.out.frozen 4
          go_upto_region 16 with (fail)
          refine wp_region_tail 11 (by kernel_rfl) (by kernel_rfl) ?_
          simp only [List.take_succ_cons, List.take_zero, List.drop_succ_cons, List.drop_zero]
          iterate 11 (go_big_quiet_step (fail))
          refine wpQuiet_nil ?_
          intro nq2
          go_wp2
          refine ⟨⟨k + 1, .slice sb bk.length cb, by omega, by go_num, Lib.hid ⟨?_, ?_, ?_⟩, Lib.hid (below_set (below_drewN RW.out nq2) (by have := HG.out; omega) (Nat.le_refl _) _ _), ?_⟩, by simp [jInt]; omega⟩
          · have e : (max (nx : Int) ((pn : Int) + 1)) = ((nextK S (k + 1) : Nat) : Int) := by rw [HNS.out]; omega
            rw [e]
            exact (RH.out.drewN nq2).set 4 _
          · exact own_set (own_below RR.out (below_drewN (Below.refl _ _) nq2)) (fun b hb => by have := RR.out.lt b hb; simp; omega)
          · rw [HBE.out]
            exact own_set (own_below RB.out (below_drewN (Below.refl _ _) nq2)) (fun b hb => by have := RB.out.lt b hb; simp; omega)
          · have := RH.out.lt
            simpa using this
        | false =>
          rw [hpo] at q4
          cases z with
          | true =>
            have hbe := HBS.out
            rw [if_neg (by rintro ⟨_, h⟩; cases h), List.append_nil] at hbe
            have HBE := Lib.hid hbe; clear hbe hpo
            have cn : wc.cell? ⟨G, 4, none⟩ = some (.int .i64 nx) := RH.out.cell rfl
            have cp : wc.cell? ⟨P5, 0, none⟩ = some (.int .i64 pn) := by rw [HPN.out]; exact RP.out.cell rfl
            have cfr : wc.frozen? ⟨G, 4, none⟩ = false := RH.out.frozen 4
            go_upto_region 16 with (fail)
            refine wp_region_tail 11 (by kernel_rfl) (by kernel_rfl) ?_
            simp only [List.take_succ_cons, List.take_zero, List.drop_succ_cons, List.drop_zero]
            iterate 11 (go_big_quiet_step (fail))
            refine wpQuiet_nil ?_
            intro nq2
            go_wp2
            refine ⟨⟨k + 1, .slice sb bk.length cb, by omega, by go_num, Lib.hid ⟨?_, ?_, ?_⟩, Lib.hid (below_set (below_drewN RW.out nq2) (by have := HG.out; omega) (Nat.le_refl _) _ _), ?_⟩, by simp [jInt]; omega⟩
            · have e : (max (nx : Int) ((pn : Int) + 1)) = ((nextK S (k + 1) : Nat) : Int) := by rw [HNS.out]; omega
              rw [e]
              exact (RH.out.drewN nq2).set 4 _
            · exact own_set (own_below RR.out (below_drewN (Below.refl _ _) nq2)) (fun b hb => by have := RR.out.lt b hb; simp; omega)
            · rw [HBE.out]
              exact own_set (own_below RB.out (below_drewN (Below.refl _ _) nq2)) (fun b hb => by have := RB.out.lt b hb; simp; omega)
            · have := RH.out.lt
              simpa using this
          | false =>
            have hbe := HBS.out
            rw [hpo, if_pos ⟨rfl, rfl⟩] at hbe
            have HBE := Lib.hid hbe; clear hbe hpo
            have cb2 : wc.cell? ⟨G, 2, none⟩ = some (.slice sb bk.length cb) := RH.out.cell rfl
            obtain ⟨i, hi1, hi2, hi3, hi4⟩ := info_parts infoInt
            have HI := Lib.hid (show i.zero = some (.int .i64 0) ∧ i.size = 1 ∧ i.bytes = 8 from ⟨hi2, hi3, hi4⟩)
            have HI1 := Lib.hid hi1; clear hi1 hi2 hi3 hi4
            have lG : G < wc.heap.size := RH.out.lt
            go_wp2_with (refine wpList_append_lies _ rfl _ _ 51 rfl (G + 1) 3 i (.int .i64 0) 1 8 hTints HI1.out HI.out.1 HI.out.2.1 HI.out.2.2 rfl (by decide) _ bk.length _ rfl (own_below RB.out (alloc_below _ _)) ⟨wc.heap.size, 0, none⟩ 1 1 [.int .i64 k] rfl rfl (World.news_of_block (Blk.new wc #[.int .i64 (k : Int)] 3)) (by intro u hu; simp at hu; rw [hu]; rfl) (by decide) (by unfold maxLen; omega) (by omega) (by simp; omega) _ rfl ?_)
            intro g5 cap5 w9 m1 m2 m3 m4
            have hGo : ∀ b, (Value.slice sb bk.length cb).ownBlock = some b → G + 1 ≤ b ∧ b < wc.heap.size := fun b hb => RB.out.lt b hb
            have x1 := (RH.out.alloc (.cells #[.int .i64 (k : Int)] 3)).grown m2 (fun e => by have := (hGo G e.symm).1; omega)
            have x2 := own_far (own_below RR.out (alloc_below wc (.cells #[.int .i64 (k : Int)] 3))) m2 (fun b hb e => HGO.out b e (by injection hb with hb; exact hb.symm))
            have x3 : Blk w9 P5 (prtC p) 94 := (RP.out.alloc (.cells #[.int .i64 (k : Int)] 3)).grown m2 (fun e => own_blk_ne RB.out RP.out (by decide) e.symm)
            have x4 : Below G w w9 := grown_below (base := G) (RW.out.alloc (by omega) _) (own_weaken (own_below RB.out (alloc_below wc _)) (by omega)) m2 (by simp; omega)
            have x5 : G + 1 ≤ g5 := by
              rcases m3 with m3 | m3
              · exact (hGo g5 m3).1
              · omega
            have y0 : w9.frozen? ⟨G, 2, none⟩ = false := x1.frozen 2
            have y1 : w9.cell? ⟨G, 2, none⟩ = some (.slice sb bk.length cb) := x1.cell rfl
            have y2 : w9.ownsRow (G + 1) 3 1 (.slice (some ⟨g5, 0, none⟩) (bk.length + 1) cap5) (badK S (k + 1)).length (intsV (badK S (k + 1))) := by
              rw [HBE.out]
              have e : intsV (bk ++ [k]) = intsV bk ++ [.int .i64 (k : Int)] := by unfold intsV; rw [List.map_append]; rfl
              rw [e, List.length_append]
              exact m1
            obtain ⟨wd, hwd⟩ : ∃ wd, w9.setCell ⟨G, 2, none⟩ (.slice (some ⟨g5, 0, none⟩) (bk.length + 1) cap5) = wd := ⟨_, rfl⟩
            have XH : Hid (Blk wd G [.pointer (some ⟨f.p, 0, none⟩), .slice none 0 0, .slice (some ⟨g5, 0, none⟩) (bk.length + 1) cap5, .slice none 0 0, .int .i64 nx, .int .i64 (finK S (k + 1)), .bool false] 89) := by rw [← hwd]; exact x1.set 2 _
            have XR : Hid (wd.ownsRow (G + 1) 94 5 (.slice (some ⟨g, 0, none⟩) (k + 1) cap) (k + 1) (prts ((S.take (k + 1)).map Jn.unpack))) := by rw [← hwd]; exact own_set x2 (fun b hb => by have := x2.lt b hb; simp; omega)
            have XB : Hid (wd.ownsRow (G + 1) 3 1 (.slice (some ⟨g5, 0, none⟩) (bk.length + 1) cap5) (badK S (k + 1)).length (intsV (badK S (k + 1)))) := by rw [← hwd]; exact own_set y2 (fun b hb => by have := y2.lt b hb; simp; omega)
            have XP : Hid (Blk wd P5 (prtC p) 94) := by rw [← hwd]; exact x3.set_ne _ (by simp; omega)
            have XW : Hid (Below G w wd) := by rw [← hwd]; exact below_set x4 (by have := HG.out; omega) (Nat.le_refl _) _ _
            clear x1 x2 x3 x4 y2 m1 m2 m3 RH RR RB RP RW cb2 hGo
            have cn : wd.cell? ⟨G, 4, none⟩ = some (.int .i64 nx) := XH.out.cell rfl
            have cp : wd.cell? ⟨P5, 0, none⟩ = some (.int .i64 pn) := by rw [HPN.out]; exact XP.out.cell rfl
            have cfr : wd.frozen? ⟨G, 4, none⟩ = false := XH.out.frozen 4
            go_wp2_with fail
            refine wp_region_tail 11 (by kernel_rfl) (by kernel_rfl) ?_
            simp only [List.take_succ_cons, List.take_zero, List.drop_succ_cons, List.drop_zero]
            iterate 11 (go_big_quiet_step (fail))
            refine wpQuiet_nil ?_
            intro nq2
            go_wp2
            refine ⟨⟨k + 1, .slice (some ⟨g5, 0, none⟩) (bk.length + 1) cap5, by omega, by go_num, Lib.hid ⟨?_, ?_, ?_⟩, Lib.hid (below_set (below_drewN XW.out nq2) (by have := HG.out; omega) (Nat.le_refl _) _ _), ?_⟩, by simp [jInt]; omega⟩
            · have e : (max (nx : Int) ((pn : Int) + 1)) = ((nextK S (k + 1) : Nat) : Int) := by rw [HNS.out]; omega
              rw [e]
              exact (XH.out.drewN nq2).set 4 _
            · exact own_set (own_below XR.out (below_drewN (Below.refl _ _) nq2)) (fun b hb => by have := XR.out.lt b hb; simp; omega)
            · exact own_set (own_below XB.out (below_drewN (Below.refl _ _) nq2)) (fun b hb => by have := XB.out.lt b hb; simp; omega)
            · have := XH.out.lt
              simpa using this
    · obtain rfl : k = N := by omega
      have hN1 : 1 ≤ k := by have := HPD.out.ok.pos; rw [HN.out]; exact this
      have hrow := hR.out.row
      rw [List.take_of_length_le (by rw [HSL.out]; exact Nat.le_refl _)] at hrow
      obtain ⟨PL, hPL⟩ : ∃ PL, PL = S.map Jn.unpack := ⟨_, rfl⟩
      rw [← hPL] at hrow
      have hPl : PL.length = k := by rw [hPL, List.length_map, HSL.out]
      have hPb : ∀ p ∈ PL, p.l ≤ 8000 ∧ p.k < 65536 ∧ p.n ≤ 4096 ∧ p.b.length ≤ 48 := fun p hp => by
        rw [hPL] at hp
        obtain ⟨s, _, rfl⟩ := List.mem_map.1 hp
        exact ⟨unpack_l s, unpack_k s, unpack_n s, unpack_b s⟩
      obtain ⟨pg, pc, sp, hpe, hpg, hpc, hpm, hPB⟩ := own_blk hrow (by omega)
      rw [hpe]
      clear hpe
      obtain ⟨vb, hvb⟩ : ∃ vb, vb = Value.slice sb (badK S k).length cb := ⟨_, rfl⟩
      rw [← hvb] at hR
      have q0 : OpQ PL f G pg 0 [] (.slice none 0 0) vb (.slice none 0 0) (badK S k) (nextK S k) (finK S k) w wr :=
        ⟨hR.out.head, ⟨sp, hPB⟩, World.ownsRow_nil _ _ _ _, World.ownsRow_nil _ _ _ _, hR.out.bad, (fun b hb => by cases hb), by rw [List.drop_zero], Nat.zero_le _, hbw.out⟩
      have Q0 := Lib.hid q0; clear q0 hPB hrow hR hbw
      have hGN : nextK S k ≤ 4097 ∧ finK S k ≤ 4096 ∧ (badK S k).length ≤ 4096 := ⟨(nextK_le S k).2, Nat.le_trans (finK_le S k) (by omega), Nat.le_trans (badK_le S k) (by omega)⟩
      have HFD : Hid (found (parts0 d) = ⟨scanL PL [], badK S k, nextK S k, finK S k, false⟩) := Lib.hid (by rw [found_eq, ← HS.out, hPL, HSL.out])
      obtain ⟨bk, hbk⟩ : ∃ bk, bk = badK S k := ⟨_, rfl⟩
      obtain ⟨nx, hnx⟩ : ∃ nx, nx = nextK S k := ⟨_, rfl⟩
      obtain ⟨fn, hfn⟩ : ∃ fn, fn = finK S k := ⟨_, rfl⟩
      have hnx1 : 1 ≤ nx := by rw [hnx]; exact (nextK_le S k).1
      rw [← hbk, ← hnx, ← hfn] at Q0 HFD hGN
      have HPLL := Lib.hid hPl; clear hPl
      have HPB := Lib.hid hPb; clear hPb
      clear hbk hnx hfn hvb hlt hPL HS64 HRD HSL
      have HPM := Lib.hid hpm; clear hpm
      go_wp2_with fail
      go_loopw [11] (fun c wr => ∃ (q : Nat) (a : List (Nat × List UInt8)) (vn vt : Value), q ≤ k ∧ c = .int .i64 q ∧ Hid (OpQ PL f G pg q a vn vb vt bk nx fn w wr)) (fun c _ => k - (jInt c).toNat)
      case atStart => exact ⟨0, [], _, _, Nat.zero_le _, rfl, Q0⟩
      case round =>
        clear Q0
        obtain ⟨q, a, vn, vt, hq, rfl, hQ⟩ := hrel
        obtain ⟨sn, cn, rfl, _⟩ := own_slice hQ.out.rn
        obtain ⟨st, ct, rfl, _⟩ := own_slice hQ.out.rt
        by_cases hlt : q < k
        · have hlc : (q : Int) < k := by omega
          have hqc : q < pc := by omega
          have hqP : q < PL.length := by rw [HPLL.out]; exact hlt
          obtain ⟨x, r, hxr⟩ : ∃ x r, PL.drop q = x :: r := ⟨_, _, List.drop_eq_getElem_cons hqP⟩
          have hxm : ∀ p ∈ x :: r, p ∈ PL := fun p hp => by rw [← hxr] at hp; exact List.mem_of_mem_drop hp
          have hxb := HPB.out x (hxm x List.mem_cons_self)
          obtain ⟨sp, hPp⟩ := hQ.out.parts
          have hpc0 : Cells wr pg (q * 5) (prts (x :: r)) := by
            refine hPp.cells (q * 5) _ ?_
            rw [List.drop_append_of_le_length (by rw [prts_len]; omega), prts_drop, hxr, List.take_left]
          have hlr : (x :: r).length = k - q := by rw [← hxr, List.length_drop, HPLL.out]
          have hpm2 := HPM.out
          have hrec := record_any x r pg (q * 5) (pc - q) wr hpc0 hPp.lt (by rw [hlr]; omega) hxb.1 hxb.2.1 hxb.2.2.1 (fun p hp => by have := HPB.out p (hxm p (List.mem_cons_of_mem _ hp)); omega) (fun p hp => (HPB.out p (hxm p hp)).2.2.2)
          rw [hlr] at hrec
          have hrn := fun h => recV_n (x := x) (r := r) hxb.1 h
          have hrs := fun h => recV_some (x := x) (r := r) h
          have hrz := fun h => recV_none (x := x) (r := r) h
          obtain ⟨⟨tx, rn, ok⟩, hrv⟩ : ∃ y, y = recV (x :: r) := ⟨_, rfl⟩
          rw [← hrv] at hrec hrn hrs hrz
          dsimp only at hrn hrs hrz
          unfold recR at hrec
          have HRN := Lib.hid hrn; clear hrn
          have HRS := Lib.hid hrs; clear hrs
          have HRZ := Lib.hid hrz; clear hrz
          have HREC := Lib.hid hrec; clear hrec
          have HXR := Lib.hid hxr; clear hxr hrv
          clear hPp hpc0 hpm2 hxm
          go_wp2_with fail
          refine HREC.out.mono ?_
          rintro e w4 ⟨rfl, b4⟩
          have hQ4 := hQ.out.below b4
          have HQ4 := Lib.hid hQ4; clear hQ4 b4 hQ HREC
          cases ok with
          | false =>
            have hsc : scanL (PL.drop (q + 1)) a = scanL PL [] := by
              have h1 := HQ4.out.sc
              rw [HXR.out, scanL_none (HRZ.out rfl)] at h1
              rw [← h1, show PL.drop (q + 1) = (PL.drop q).drop 1 by rw [List.drop_drop], HXR.out]
              rfl
            have HSC := Lib.hid hsc; clear hsc
            go_wp2
            go_roundw
            case rel => exact ⟨q + 1, a, _, _, by omega, by go_num, Lib.hid ⟨HQ4.out.head, HQ4.out.parts, HQ4.out.rn, HQ4.out.rt, HQ4.out.rb, HQ4.out.nb, HSC.out, Nat.le_succ_of_le HQ4.out.al, HQ4.out.low⟩⟩
            case measure => simp [jInt]; omega
          | true =>
            obtain ⟨hn1, hn2⟩ := HRN.out rfl
            rw [hlr] at hn2
            have hsc0 := HQ4.out.sc
            rw [HXR.out, scanL_some (HRS.out rfl)] at hsc0
            have hdr : r.drop (rn - 1) = PL.drop (q + rn) := by
              rw [← List.drop_drop, HXR.out, show rn = (rn - 1) + 1 by omega, List.drop_succ_cons]
              simp
            rw [hdr] at hsc0
            have HSC := Lib.hid hsc0; clear hsc0 hdr
            have hany : (a.any fun z => decide (z.1 = x.n)) = (a.map Prod.fst).contains x.n := by
              rw [Bool.eq_iff_iff, List.any_eq_true, List.contains_iff_mem, List.mem_map]
              constructor
              · rintro ⟨z, hz, h⟩; exact ⟨z, hz, of_decide_eq_true h⟩
              · rintro ⟨z, hz, h⟩; exact ⟨z, hz, decide_eq_true h⟩
            obtain ⟨c0, hc0⟩ : ∃ b, b = (a.map Prod.fst).contains x.n := ⟨_, rfl⟩
            rw [← hc0] at hany
            have HANY := Lib.hid hany; clear hany
            have hal := HQ4.out.al
            obtain ⟨sp4, hP4⟩ := HQ4.out.parts
            have hpx : w4.cell? ⟨pg, q * 5, none⟩ = some (.int .i64 (x.n : Int)) := by
              refine hP4.cell ?_
              have e : (prts PL).drop (q * 5) = prts (x :: r) := by rw [prts_drop, HXR.out]
              have h5 : q * 5 < (prts PL).length := by rw [prts_len]; omega
              rw [List.getElem?_append_left h5]
              have := congrArg (fun l => l[0]?) e
              simp only [List.getElem?_drop, Nat.add_zero] at this
              rw [this]
              rfl
            have hcn : w4.cell? ⟨G, 1, none⟩ = some (.slice sn a.length cn) := HQ4.out.head.cell rfl
            have hcon : ∀ n, Calls Tryz.prog 51 #[.slice sn a.length cn, .int .i64 (x.n : Int)] (w4.drewN n) fun e w' => e = .returned (.bool ((a.map Prod.fst).contains x.n)) ∧ w' = w4.drewN n := fun n => by
              have := contains_any (a.map Prod.fst) x.n (.slice sn a.length cn) (w4.drewN n) (by rw [List.length_map]; exact (Sl.of_owns HQ4.out.rn).drewN n) (by rw [List.length_map]; omega)
              exact this
            rw [← hc0] at hcon
            have HCON := Lib.hid hcon; clear hcon hc0
            have hqk : (q : Int) < (k : Int) := hlc
            go_upto_region 23 with (fail)
            refine wp_region_quiet_lit (by kernel_rfl) (by kernel_rfl) ?_
            repeat (go_big_quiet_step (exact Calls.quiet_of_same (HCON.out _)))
            refine wpQuiet_nil ?_
            rintro _ ⟨nq, rfl⟩
            obtain ⟨w5, hw5⟩ : ∃ w5, w4.drewN nq = w5 := ⟨_, rfl⟩
            have hQ5 := HQ4.out.below (below_drewN (Below.refl _ w4) nq)
            rw [hw5] at hQ5 ⊢
            have HQ5 := Lib.hid hQ5; clear hQ5 hw5 HQ4 hpx hcn hP4 HCON
            cases c0 with
            | true =>
              have hsc := HSC.out
              rw [HANY.out, if_pos rfl] at hsc
              have HSC2 := Lib.hid hsc; clear hsc HSC HANY
              have e1 : (q : Int) + (rn : Int) = ((q + rn : Nat) : Int) := by omega
              have e2 : (q : Int) + (rn : Int) ≤ 4096 := by omega
              have e3 : (0 : Int) ≤ (q : Int) + (rn : Int) := by omega
              clear e1
              go_wp2
              go_roundw
              case rel => exact ⟨q + rn, a, _, _, by omega, by go_num, Lib.hid ⟨HQ5.out.head, HQ5.out.parts, HQ5.out.rn, HQ5.out.rt, HQ5.out.rb, HQ5.out.nb, HSC2.out, by omega, HQ5.out.low⟩⟩
              case measure => simp [jInt]; omega
            | false =>
              have hsc := HSC.out
              rw [HANY.out, if_neg Bool.false_ne_true] at hsc
              have HSC2 := Lib.hid hsc; clear hsc HSC HANY
              obtain ⟨sp5, hP5⟩ := HQ5.out.parts
              have hGF : ∀ g, (g = G ∨ g = pg) → g ∉ ownF (.slice sn a.length cn) (.slice st a.length ct) := fun g hg hm => by
                simp only [ownF, List.mem_append, Option.mem_toList] at hm
                rcases hg with rfl | rfl
                · rcases hm with hm | hm
                  · have := (HQ5.out.rn.lt g hm).1; omega
                  · have := (HQ5.out.rt.lt g hm).1; omega
                · rcases hm with hm | hm
                  · exact own_blk_ne HQ5.out.rn hP5 (by decide) hm
                  · exact own_blk_ne HQ5.out.rt hP5 (by decide) hm
              have HGF := Lib.hid hGF; clear hGF
              have hpx5 : w5.cell? ⟨pg, q * 5, none⟩ = some (.int .i64 (x.n : Int)) := by
                refine hP5.cell ?_
                have e : (prts PL).drop (q * 5) = prts (x :: r) := by rw [prts_drop, HXR.out]
                have h5 : q * 5 < (prts PL).length := by rw [prts_len]; omega
                rw [List.getElem?_append_left h5]
                have := congrArg (fun l => l[0]?) e
                simp only [List.getElem?_drop, Nat.add_zero] at this
                rw [this]
                rfl
              have lpg := hP5.lt
              have HXN : Hid (∀ W1 : World, Chg (ownF (.slice sn a.length cn) (.slice st a.length ct)) w5.drew W1 → W1.cell? ⟨pg, q * 5, none⟩ = some (.int .i64 (x.n : Int))) := Lib.hid (fun W1 hc => (World.cell?_of_block (w := w5.drew) (hc.block pg lpg (HGF.out pg (.inr rfl)))).trans hpx5)
              have l5 := HQ5.out.head.lt
              have HSW : Hid (∀ W1 : World, ExtA (ownF (.slice sn a.length cn) (.slice st a.length ct)) (G + 1) (goodA a.length (intsV (a.map Prod.fst)) (.int .i64 (x.n : Int)) ((a.map Prod.snd).map str) (str tx)) w5.drew W1 → w5.heap.size ≤ W1.heap.size) := Lib.hid (fun W1 hx => hx.chg.size)
              have HSZ : Hid (∀ W1 : World, ExtA (ownF (.slice sn a.length cn) (.slice st a.length ct)) (G + 1) (goodA a.length (intsV (a.map Prod.fst)) (.int .i64 (x.n : Int)) ((a.map Prod.snd).map str) (str tx)) w5.drew W1 → G + 1 ≤ W1.heap.size) := Lib.hid (fun W1 hx => Nat.le_trans l5 hx.chg.size)
              have HXL : Hid ((intsV (a.map Prod.fst)).length = a.length) := Lib.hid (by simp [intsV])
              have HYL : Hid (((a.map Prod.snd).map str).length = a.length) := Lib.hid (by simp)
              have HRNN : Hid (∀ W1 : World, ExtA (ownF (.slice sn a.length cn) (.slice st a.length ct)) (G + 1) (goodA a.length (intsV (a.map Prod.fst)) (.int .i64 (x.n : Int)) ((a.map Prod.snd).map str) (str tx)) w5.drew W1 → W1.ownsRow (G + 1) 3 1 (.slice sn a.length cn) a.length (intsV (a.map Prod.fst))) := Lib.hid (fun W1 hx => hx.rows _ _ _ _ _ (.inl ⟨rfl, rfl, .inr (.inl ⟨rfl, rfl⟩)⟩) (own_below HQ5.out.rn (Below.refl w5.heap.size w5).drew))
              have HRT : Hid (∀ W1 : World, ExtA (ownF (.slice sn a.length cn) (.slice st a.length ct)) (G + 1) (goodA a.length (intsV (a.map Prod.fst)) (.int .i64 (x.n : Int)) ((a.map Prod.snd).map str) (str tx)) w5.drew W1 → W1.ownsRow (G + 1) 9 1 (.slice st a.length ct) a.length ((a.map Prod.snd).map str)) := Lib.hid (fun W1 hx => hx.rows _ _ _ _ _ (.inr ⟨rfl, rfl, .inr (.inl ⟨rfl, rfl⟩)⟩) (own_below HQ5.out.rt (Below.refl w5.heap.size w5).drew))
              clear hpx5
              go_upto_region 24 with (fail)
              refine SqE.wp_region_sqE 22 1 113 4 _ rfl 22 [5, 10, 11, 12, 16, 18, 19] (ExtA (ownF (.slice sn a.length cn) (.slice st a.length ct)) (G + 1) (goodA a.length (intsV (a.map Prod.fst)) (.int .i64 (x.n : Int)) ((a.map Prod.snd).map str) (str tx))) (fun i v W => match i with
                | 5 => v = (.slice sn a.length cn)
                | 10 => v = (.int .i64 (x.n : Int))
                | 11 => ∃ b, v = .slice (some ⟨b, 0, none⟩) 1 1 ∧ W.ownsRow (G + 1) 3 1 v 1 [(.int .i64 (x.n : Int))]
                | 12 => ∃ g cap, v = .slice (some ⟨g, 0, none⟩) (a.length + 1) cap ∧ W.ownsRow (G + 1) 3 1 v (a.length + 1) ((intsV (a.map Prod.fst)) ++ [(.int .i64 (x.n : Int))]) ∧ (((.slice sn a.length cn) : Value).ownBlock = some g ∨ w5.heap.size ≤ g)
                | 16 => v = (.slice st a.length ct)
                | 18 => ∃ b, v = .slice (some ⟨b, 0, none⟩) 1 1 ∧ W.ownsRow (G + 1) 9 1 v 1 [(str tx)]
                | 19 => ∃ g cap, v = .slice (some ⟨g, 0, none⟩) (a.length + 1) cap ∧ W.ownsRow (G + 1) 9 1 v (a.length + 1) (((a.map Prod.snd).map str) ++ [(str tx)]) ∧ (((.slice st a.length ct) : Value).ownBlock = some g ∨ w5.heap.size ≤ g)
                | _ => True) (by kernel_rfl) (by kernel_rfl) (by kernel_rfl) (ExtA.refl _ _ _) (ExtA.trans _ _ _) ?stable ?main
              case stable =>
                intro i v W W' h hb
                match i, h with
                | 0, h => exact h
                | 1, h => exact h
                | 2, h => exact h
                | 3, h => exact h
                | 4, h => exact h
                | 5, h => exact h
                | 6, h => exact h
                | 7, h => exact h
                | 8, h => exact h
                | 9, h => exact h
                | 10, h => exact h
                | 11, h => exact (by obtain ⟨b, h1, h2⟩ := h; exact ⟨b, h1, hb.rows _ _ _ _ _ (.inl ⟨rfl, rfl, .inl ⟨rfl, rfl⟩⟩) h2⟩)
                | 12, h => exact (by obtain ⟨g, cap, h1, h2, h3⟩ := h; exact ⟨g, cap, h1, hb.rows _ _ _ _ _ (.inl ⟨rfl, rfl, .inr (.inr ⟨rfl, rfl⟩)⟩) h2, h3⟩)
                | 13, h => exact h
                | 14, h => exact h
                | 15, h => exact h
                | 16, h => exact h
                | 17, h => exact h
                | 18, h => exact (by obtain ⟨b, h1, h2⟩ := h; exact ⟨b, h1, hb.rows _ _ _ _ _ (.inr ⟨rfl, rfl, .inl ⟨rfl, rfl⟩⟩) h2⟩)
                | 19, h => exact (by obtain ⟨g, cap, h1, h2, h3⟩ := h; exact ⟨g, cap, h1, hb.rows _ _ _ _ _ (.inr ⟨rfl, rfl, .inr (.inr ⟨rfl, rfl⟩)⟩) h2, h3⟩)
                | _ + 20, _ => exact trivial
              simp only [SqE.addE, List.set_cons_zero, List.set_cons_succ, List.getD_cons_zero, List.getD_cons_succ]
              simp only [List.take_succ_cons, List.take_zero, List.drop_succ_cons, List.drop_zero]
              repeat (refine sqw_quiet rfl rfl (ExtA.refl _ _ _ _) ?_; go_big_quiet_step (rfl); refine wpQuiet_nil ?_)
              refine sqw_postY rfl rfl rfl ?_ ?_
              · intro W1 hx hf
                have cx := ((HQ5.out.head.drew).chg hx.chg (HGF.out G (Or.inl rfl))).cell (i := 1) rfl
                refine yields_value (v := (.slice sn a.length cn)) (w' := W1) ?_ ⟨rfl, ExtA.refl _ _ _ _⟩
                go_simp
              intro v Wj hv
              obtain rfl : v = (.slice sn a.length cn) := hv
              simp only [Act.put, List.setIfInBounds_toArray, List.set_cons_zero, List.set_cons_succ]
              repeat (refine sqw_quiet rfl rfl (ExtA.refl _ _ _ _) ?_; go_big_quiet_step (rfl); refine wpQuiet_nil ?_)
              refine sqw_postY rfl rfl rfl ?_ ?_
              · intro W1 hx hf
                have cx := HXN.out W1 hx.chg
                refine yields_value (v := (.int .i64 (x.n : Int))) (w' := W1) ?_ ⟨rfl, ExtA.refl _ _ _ _⟩
                go_simp
              intro v Wj hv
              obtain rfl : v = (.int .i64 (x.n : Int)) := hv
              simp only [Act.put, List.setIfInBounds_toArray, List.set_cons_zero, List.set_cons_succ]
              repeat (refine sqw_quiet rfl rfl (ExtA.refl _ _ _ _) ?_; go_big_quiet_step (rfl); refine wpQuiet_nil ?_)
              refine sqw_postY rfl rfl rfl ?_ ?_
              · intro W1 hx hf
                refine buildOne_exec (e := 3) (v := (.int .i64 (x.n : Int))) (F := ownF (.slice sn a.length cn) (.slice st a.length ct)) (good := goodA a.length (intsV (a.map Prod.fst)) (.int .i64 (x.n : Int)) ((a.map Prod.snd).map str) (str tx)) ?_ (HSZ.out W1 hx) (fun b W' _ h2 h3 => ⟨⟨b, rfl, h2⟩, h3⟩)
                go_simp
              intro v Wj hv
              obtain ⟨L1, rfl, _⟩ := hv
              simp only [Act.put, List.setIfInBounds_toArray, List.set_cons_zero, List.set_cons_succ]
              repeat (refine sqw_quiet rfl rfl (ExtA.refl _ _ _ _) ?_; go_big_quiet_step (rfl); refine wpQuiet_nil ?_)
              refine sqw_postY rfl rfl rfl ?_ ?_
              · intro W1 hx hf
                obtain ⟨b, hb1, hb2⟩ := hf 11 123 (by kernel_rfl) rfl rfl (fun o h => by obtain rfl := Option.some.inj h; rfl)
                injection hb1 with hb1
                injection hb1 with hb1
                injection hb1 with hb1
                subst hb1
                refine yields_append1 _ _ 51 rfl (G + 1) 3 (.int .i64 0) 8 hTints infoInt rfl (.slice sn a.length cn) a.length (intsV (a.map Prod.fst)) rfl (HRNN.out W1 hx) _ 1 (.int .i64 (x.n : Int)) rfl (own_cell1 hb2) rfl (by unfold maxLen; omega) (by omega) (HSZ.out W1 hx) (fun k hk => ownF_l hk) (goodA_int HXL.out) (fun _ _ _ h => goodA_size h) (fun g cap W' h1 h2 h3 => ⟨⟨g, cap, rfl, h1, h2.imp (fun h => h) (fun h => Nat.le_trans (HSW.out W1 hx) h)⟩, h3⟩)
              intro v Wj hv
              obtain ⟨g1, cap1, rfl, _⟩ := hv
              simp only [Act.put, List.setIfInBounds_toArray, List.set_cons_zero, List.set_cons_succ]
              repeat (refine sqw_quiet rfl rfl (ExtA.refl _ _ _ _) ?_; go_big_quiet_step (rfl); refine wpQuiet_nil ?_)
              refine sqw_postY rfl rfl rfl ?_ ?_
              · intro W1 hx hf
                have cx := ((HQ5.out.head.drew).chg hx.chg (HGF.out G (Or.inl rfl))).cell (i := 3) rfl
                refine yields_value (v := (.slice st a.length ct)) (w' := W1) ?_ ⟨rfl, ExtA.refl _ _ _ _⟩
                go_simp
              intro v Wj hv
              obtain rfl : v = (.slice st a.length ct) := hv
              simp only [Act.put, List.setIfInBounds_toArray, List.set_cons_zero, List.set_cons_succ]
              repeat (refine sqw_quiet rfl rfl (ExtA.refl _ _ _ _) ?_; go_big_quiet_step (rfl); refine wpQuiet_nil ?_)
              refine sqw_postY rfl rfl rfl ?_ ?_
              · intro W1 hx hf
                refine buildOne_exec (e := 9) (v := (str tx)) (F := ownF (.slice sn a.length cn) (.slice st a.length ct)) (good := goodA a.length (intsV (a.map Prod.fst)) (.int .i64 (x.n : Int)) ((a.map Prod.snd).map str) (str tx)) ?_ (HSZ.out W1 hx) (fun b W' _ h2 h3 => ⟨⟨b, rfl, h2⟩, h3⟩)
                go_simp
              intro v Wj hv
              obtain ⟨L2, rfl, _⟩ := hv
              simp only [Act.put, List.setIfInBounds_toArray, List.set_cons_zero, List.set_cons_succ]
              repeat (refine sqw_quiet rfl rfl (ExtA.refl _ _ _ _) ?_; go_big_quiet_step (rfl); refine wpQuiet_nil ?_)
              refine sqw_postY rfl rfl rfl ?_ ?_
              · intro W1 hx hf
                obtain ⟨b, hb1, hb2⟩ := hf 18 130 (by kernel_rfl) rfl rfl (fun o h => by obtain rfl := Option.some.inj h; rfl)
                injection hb1 with hb1
                injection hb1 with hb1
                injection hb1 with hb1
                subst hb1
                refine yields_append1 _ _ 22 rfl (G + 1) 9 (str []) 16 hTss infoStr rfl (.slice st a.length ct) a.length ((a.map Prod.snd).map str) rfl (HRT.out W1 hx) _ 1 (str tx) rfl (own_cell1 hb2) rfl (by unfold maxLen; omega) (by omega) (HSZ.out W1 hx) (fun k hk => ownF_r hk) (goodA_str HYL.out) (fun _ _ _ h => goodA_size h) (fun g cap W' h1 h2 h3 => ⟨⟨g, cap, rfl, h1, h2.imp (fun h => h) (fun h => Nat.le_trans (HSW.out W1 hx) h)⟩, h3⟩)
              intro v Wj hv
              obtain ⟨g2, cap2, rfl, _⟩ := hv
              simp only [Act.put, List.setIfInBounds_toArray, List.set_cons_zero, List.set_cons_succ]
              repeat (refine sqw_quiet rfl rfl (ExtA.refl _ _ _ _) ?_; go_big_quiet_step (rfl); refine wpQuiet_nil ?_)
              refine sqw_nil ?_
              intro w6 hx hf
              obtain ⟨ga, ca, ea, o1, n1⟩ := hf 12 124 (by decide) (by kernel_rfl) rfl (fun o h => by obtain rfl := Option.some.inj h; rfl)
              cases ea
              obtain ⟨gb, cb, eb, o2, n2⟩ := hf 19 131 (by decide) (by kernel_rfl) rfl (fun o h => by obtain rfl := Option.some.inj h; rfl)
              cases eb
              clear hf
              have hh6 := HQ5.out.head.drew.chg hx.chg (HGF.out G (.inl rfl))
              have hpush := OpQ.push HQ5.out hx.chg o1 n1 o2 HSC2.out (by omega) (Nat.le_of_lt l5) (by have := HG.out; omega)
              have HPU := Lib.hid hpush; clear hpush o1 o2 n1 n2
              have cf1 : w6.frozen? ⟨G, 1, none⟩ = false := hh6.frozen 1
              have cc1 : w6.cell? ⟨G, 1, none⟩ = some (.slice sn a.length cn) := hh6.cell rfl
              have cc3 : (w6.setCell ⟨G, 1, none⟩ (.slice (some ⟨g1, 0, none⟩) (a.length + 1) cap1)).cell? ⟨G, 3, none⟩ = some (.slice st a.length ct) := (hh6.set 1 _).cell rfl
              have cf3 : (w6.setCell ⟨G, 1, none⟩ (.slice (some ⟨g1, 0, none⟩) (a.length + 1) cap1)).frozen? ⟨G, 3, none⟩ = false := (hh6.set 1 _).frozen 3
              clear hh6
              have e2 : (q : Int) + (rn : Int) ≤ 4096 := by omega
              have e3 : (0 : Int) ≤ (q : Int) + (rn : Int) := by omega
              go_wp2
              refine SqE.nrm ?_
              go_wp2
              go_roundw
              case rel => exact ⟨q + rn, a ++ [(x.n, tx)], _, _, by omega, by go_num, HPU⟩
              case measure => simp [jInt]; omega
        · obtain rfl : q = k := by omega
          have hsc := hQ.out.sc
          rw [List.drop_of_length_le (by rw [HPLL.out]; exact Nat.le_refl _)] at hsc
          have ha : a = scanL PL [] := hsc
          have hal := hQ.out.al
          have hfo : found (parts0 d) = ⟨a, bk, nx, fn, false⟩ := by rw [HFD.out, ha]
          have hlow := hQ.out.low
          have hJ : JM wr f ⟨G, .slice sn a.length cn, vb, .slice st a.length ct⟩ (found (parts0 d)) := by
            rw [hfo]
            exact ⟨hQ.out.head, hQ.out.rn, hQ.out.rb, hQ.out.rt, fun x hx => by have h8 := HPD.out.lt x hx; rw [← HG.out] at h8; exact h8, hQ.out.nb, hGN.2.1, ⟨hnx1, hGN.1⟩, by dsimp only; omega, hGN.2.2⟩
          have HJ := Lib.hid hJ; clear hJ hsc ha hfo hal hQ
          go_wp2
          go_ret2
          exact ⟨_, rfl, HJ.out, by rw [HG.out]; exact Nat.le_refl _, by rw [← HG.out]; exact hlow⟩
end Go.Proofs.YtbmnbdkbgpajeaaGreatDoor
end
