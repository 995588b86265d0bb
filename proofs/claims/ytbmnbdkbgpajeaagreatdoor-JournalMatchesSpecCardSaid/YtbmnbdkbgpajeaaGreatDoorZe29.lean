/- journal: the reference: Open. -/
import Derived.Test.YtbmnbdkbgpajeaaGreatDoorZe27
import Derived.Deep.CutBlock
import Derived.Test.YtbmnbdkbgpajeaaGreatDoorZe28
/- journal: the reference: Open. -/
section
namespace Go.Proofs.YtbmnbdkbgpajeaaGreatDoor
open Go.RowKit Go.Own Go.Jn Go.Disk Go.BigFrame Go.Sha
attribute [local irreducible] SqW
attribute [local irreducible] SqC.SqW
attribute [local go_sem] setCell_twice str_size op_str_eql op_str_neq str_append
/-- the inner loop: behind i sectors of a record -/
structure InU (x : Prt) (l : List Prt) (rv : List UInt8 × Nat × Bool) (wh : Bool) (w3 wi : World) (i : Nat) (tt : List UInt8) (wb : Bool) : Prop where
  len : tt.length ≤ 48 * i
  b : Below w3.heap.size w3 wi
  yes : wb = true → wh = true ∧ (∀ j, j < i → fits x (l.getD j prt0) j = true) ∧ tt = txtK l i
  no : wb = false → rv = ([], 0, false)
/-- Behind k parts. -/
structure OpU (PL : List Prt) (r : Rt) (G pg k : Nat) (a : List (Nat × List UInt8)) (vn vb vt : Value) (bk : List Nat) (nx fn : Nat) (w0 W : World) : Prop where
  head : Blk W G [.pointer (some ⟨r.p, 0, none⟩), vn, vt, vb, .int .i64 nx, .int .i64 fn, .bool false] 66
  parts : ∃ sp, Blk W pg (prts PL ++ sp) 102
  rn : W.ownsRow (G + 1) 3 1 vn a.length (intsV (a.map Prod.fst))
  rt : W.ownsRow (G + 1) 9 1 vt a.length ((a.map Prod.snd).map str)
  rb : W.ownsRow (G + 1) 3 1 vb bk.length (intsV bk)
  nb : ∀ b, vn.ownBlock = some b → vb.ownBlock ≠ some b
  sc : scanL (PL.drop k) a = scanL PL []
  al : a.length ≤ k
  low : Below G w0 W
theorem OpU.below {PL : List Prt} {r : Rt} {G pg k : Nat} {a : List (Nat × List UInt8)} {vn vb vt : Value} {bk : List Nat} {nx fn : Nat} {w0 W W' : World} (h : OpU PL r G pg k a vn vb vt bk nx fn w0 W) (hb : Below W.heap.size W W') : OpU PL r G pg k a vn vb vt bk nx fn w0 W' := by
  obtain ⟨sp, hp⟩ := h.parts
  exact ⟨h.head.below hb h.head.lt, ⟨sp, hp.below hb hp.lt⟩, own_below h.rn hb, own_below h.rt hb, own_below h.rb hb, h.nb, h.sc, h.al, h.low.trans (hb.mono (Nat.le_of_lt h.head.lt))⟩
/-- a number was written, its text not yet -/
structure OpV (PL : List Prt) (r : Rt) (G pg : Nat) (a : List (Nat × List UInt8)) (n : Nat) (vn vb vt : Value) (bk : List Nat) (nx fn : Nat) (w0 W : World) : Prop where
  head : Blk W G [.pointer (some ⟨r.p, 0, none⟩), vn, vt, vb, .int .i64 nx, .int .i64 fn, .bool false] 66
  parts : ∃ sp, Blk W pg (prts PL ++ sp) 102
  rn : W.ownsRow (G + 1) 3 1 vn (a.length + 1) (intsV (a.map Prod.fst) ++ [.int .i64 (n : Int)])
  rt : W.ownsRow (G + 1) 9 1 vt a.length ((a.map Prod.snd).map str)
  rb : W.ownsRow (G + 1) 3 1 vb bk.length (intsV bk)
  nb : ∀ b, vn.ownBlock = some b → vb.ownBlock ≠ some b
  low : Below G w0 W
theorem OpV.below {PL : List Prt} {r : Rt} {G pg : Nat} {a : List (Nat × List UInt8)} {n : Nat} {vn vb vt : Value} {bk : List Nat} {nx fn : Nat} {w0 W W' : World} (h : OpV PL r G pg a n vn vb vt bk nx fn w0 W) (hb : Below W.heap.size W W') : OpV PL r G pg a n vn vb vt bk nx fn w0 W' := by
  obtain ⟨sp, hp⟩ := h.parts
  exact ⟨h.head.below hb h.head.lt, ⟨sp, hp.below hb hp.lt⟩, own_below h.rn hb, own_below h.rt hb, own_below h.rb hb, h.nb, h.low.trans (hb.mono (Nat.le_of_lt h.head.lt))⟩
theorem OpU.num {PL : List Prt} {r : Rt} {G pg q : Nat} {a : List (Nat × List UInt8)} {vn vb vt : Value} {bk : List Nat} {nx fn : Nat} {w0 W W' : World} (h : OpU PL r G pg q a vn vb vt bk nx fn w0 W) (hg : W.grownBy W' vn.ownBlock) {g1 c1 n : Nat}
    (o1 : W'.ownsRow (G + 1) 3 1 (.slice (some ⟨g1, 0, none⟩) (a.length + 1) c1) (a.length + 1) (intsV (a.map Prod.fst) ++ [.int .i64 (n : Int)])) (n1 : vn.ownBlock = some g1 ∨ W.heap.size ≤ g1) (hw0 : G ≤ w0.heap.size) :
    OpV PL r G pg a n (.slice (some ⟨g1, 0, none⟩) (a.length + 1) c1) vb vt bk nx fn w0 (W'.setCell ⟨G, 1, none⟩ (.slice (some ⟨g1, 0, none⟩) (a.length + 1) c1)) := by
  obtain ⟨sp, hp⟩ := h.parts
  have hpG : pg ≠ G := fun e => by subst e; exact absurd (blk_ty hp h.head) (by decide)
  have hh := h.head.grown hg (fun e => by have := (h.rn.lt G e.symm).1; omega)
  have hpp := hp.grown hg (fun e => own_blk_ne h.rn hp (by decide) e.symm)
  have rt := own_far h.rt hg (fun b hb e => own_types h.rn h.rt (by decide) b e hb)
  have rb := own_far h.rb hg (fun b hb e => h.nb b e hb)
  have ne : ∀ {v : Value} {size n : Nat} {e : TypeId} {xs : List Value} {w : World}, w.ownsRow (G + 1) e size v n xs → ∀ b, v.ownBlock = some b → b ≠ G := fun ho b hb => by have := (ho.lt b hb).1; omega
  refine ⟨hh.set 1 _, ⟨sp, hpp.set_ne _ (by simpa using hpG)⟩, own_set o1 (fun b hb => by have := ne o1 b hb; simpa using this), own_set rt (fun b hb => by have := ne rt b hb; simpa using this), own_set rb (fun b hb => by have := ne rb b hb; simpa using this), fun b hb hv => ?_, ?_⟩
  · obtain rfl : g1 = b := by simpa [Value.ownBlock] using hb
    rcases n1 with n1 | n1
    · exact h.nb _ n1 hv
    · have := (h.rb.lt _ hv).2
      omega
  · exact below_set (grown_below (base := G) h.low (own_weaken h.rn (by omega)) hg (Nat.le_of_lt h.head.lt)) hw0 (Nat.le_refl _) _ _
theorem OpV.txt {PL : List Prt} {r : Rt} {G pg q' : Nat} {a : List (Nat × List UInt8)} {n : Nat} {vn vb vt : Value} {bk : List Nat} {nx fn : Nat} {w0 W W' : World} (h : OpV PL r G pg a n vn vb vt bk nx fn w0 W) (hg : W.grownBy W' vt.ownBlock) {g2 c2 : Nat} {t : List UInt8}
    (o2 : W'.ownsRow (G + 1) 9 1 (.slice (some ⟨g2, 0, none⟩) (a.length + 1) c2) (a.length + 1) ((a.map Prod.snd).map str ++ [str t])) (hw0 : G ≤ w0.heap.size) (hs : scanL (PL.drop q') (a ++ [(n, t)]) = scanL PL []) (hl : a.length + 1 ≤ q') :
    OpU PL r G pg q' (a ++ [(n, t)]) vn vb (.slice (some ⟨g2, 0, none⟩) (a.length + 1) c2) bk nx fn w0 (W'.setCell ⟨G, 2, none⟩ (.slice (some ⟨g2, 0, none⟩) (a.length + 1) c2)) := by
  obtain ⟨sp, hp⟩ := h.parts
  have hpG : pg ≠ G := fun e => by subst e; exact absurd (blk_ty hp h.head) (by decide)
  have hh := h.head.grown hg (fun e => by have := (h.rt.lt G e.symm).1; omega)
  have hpp := hp.grown hg (fun e => own_blk_ne h.rt hp (by decide) e.symm)
  have rn := own_far h.rn hg (fun b hb e => own_types h.rn h.rt (by decide) b hb e)
  have rb := own_far h.rb hg (fun b hb e => own_types h.rt h.rb (by decide) b e hb)
  have ne : ∀ {v : Value} {size n : Nat} {e : TypeId} {xs : List Value} {w : World}, w.ownsRow (G + 1) e size v n xs → ∀ b, v.ownBlock = some b → b ≠ G := fun ho b hb => by have := (ho.lt b hb).1; omega
  refine ⟨hh.set 2 _, ⟨sp, hpp.set_ne _ (by simpa using hpG)⟩, ?_, ?_, own_set rb (fun b hb => by have := ne rb b hb; simpa using this), h.nb, hs, by rw [List.length_append]; exact hl, ?_⟩
  · have e : intsV ((a ++ [(n, t)]).map Prod.fst) = intsV (a.map Prod.fst) ++ [.int .i64 (n : Int)] := by simp [intsV]
    rw [e, List.length_append]
    exact own_set rn (fun b hb => by have := ne rn b hb; simpa using this)
  · have e : ((a ++ [(n, t)]).map Prod.snd).map str = (a.map Prod.snd).map str ++ [str t] := by simp
    rw [e, List.length_append]
    exact own_set o2 (fun b hb => by have := ne o2 b hb; simpa using this)
  · exact below_set (grown_below (base := G) h.low (own_weaken h.rt (by omega)) hg (Nat.le_of_lt h.head.lt)) hw0 (Nat.le_refl _) _ _
/-- Behind k sectors. -/
structure OpT (S : List (List UInt8)) (r : Rt) (G k : Nat) (v vb : Value) (W : World) : Prop where
  head : Blk W G [.pointer (some ⟨r.p, 0, none⟩), .slice none 0 0, .slice none 0 0, vb, .int .i64 (nextK S k), .int .i64 (finK S k), .bool false] 66
  row : W.ownsRow (G + 1) 102 5 v k (prts ((S.take k).map Jn.unpack))
  bad : W.ownsRow (G + 1) 3 1 vb (badK S k).length (intsV (badK S k))
theorem infoRPart2 : (Tryz.prog.info? 102).map (fun i => (i.zero, i.size, i.bytes)) = some (some (prtV prt0), 5, 48) := by kernel_rfl
theorem hTrparts : Tryz.prog.underlying 100 = some (.slice 102) := by kernel_rfl
set_option maxRecDepth 100000 in
set_option maxHeartbeats 4000000 in
theorem ropen_any (r : Rt) (d : DS) (w : World) (h : RD w r d) (hoff : d.off = false) (hK : Cells w 0 0 (Kt.map U)) (h1 : 0 < w.heap.size) :
    Calls Tryz.prog 13 #[.pointer (some ⟨r.p, 0, none⟩)] w fun e w' => ∃ J : Jf, e = .returned (.tuple #[.pointer (some ⟨J.g, 0, none⟩), .int .i64 0]) ∧ RJ w' r J (found (parts0 d)) ∧ w.heap.size ≤ J.g ∧ Below w.heap.size w w' := by
  have hlt := h.lt
  have hok := h.ok
  obtain ⟨S, hS⟩ : ∃ S, S = parts0 d := ⟨_, rfl⟩
  have hSl : S.length = d.s.length := by rw [hS]; simp [parts0]
  have hS64 : ∀ s ∈ S, s.length = 64 := by rw [hS]; exact cont_len hok
  obtain ⟨N, hN⟩ : ∃ N, N = d.s.length := ⟨_, rfl⟩
  have hNm : N ≤ 4096 := by rw [hN]; exact hok.most
  have hrd : ∀ i, i < N → aread d (i : Int) = (S.getD i [], 0) := fun i hi => by rw [hS]; exact aread_at hoff (by omega)
  rw [← hN] at hSl
  have HS64 := Lib.hid hS64; clear hS64
  have HRD := Lib.hid hrd; clear hrd
  have HPD := Lib.hid h; clear h
  have HK := Lib.hid hK; clear hK
  have HLT := Lib.hid hlt; clear hlt
  have HS := Lib.hid hS; clear hS
  have hlen := rlen_any r d
  rw [← hN] at hlen
  have HLN := Lib.hid hlen; clear hlen
  have HN := Lib.hid hN; clear hN hok
  have HSL := Lib.hid hSl; clear hSl
  go_enter Tryz.func13, Tryz.ntmps13
  go_wp2_with fail
  obtain ⟨w1, hw1⟩ : ∃ w1, w.alloc (.cells #[.pointer (some ⟨r.p, 0, none⟩), .slice none 0 0, .slice none 0 0, .slice none 0 0, .int .i64 1, .int .i64 0, .bool false] 66) = w1 := ⟨_, rfl⟩
  have b1 : Below w.heap.size w w1 := by rw [← hw1]; exact alloc_below _ _
  have k1 : Blk w1 w.heap.size [.pointer (some ⟨r.p, 0, none⟩), .slice none 0 0, .slice none 0 0, .slice none 0 0, .int .i64 1, .int .i64 0, .bool false] 66 := by rw [← hw1]; exact Blk.new _ _ _
  rw [hw1]
  clear hw1
  obtain ⟨G, hG⟩ : ∃ G, G = w.heap.size := ⟨_, rfl⟩
  rw [← hG] at b1 k1 h1 ⊢
  have hGw : G < w1.heap.size := k1.lt
  have hB1 := Lib.hid b1; clear b1
  have r0 : OpT S r G 0 (.slice none 0 0) (.slice none 0 0) w1 := ⟨k1, World.ownsRow_nil _ _ _ _, World.ownsRow_nil _ _ _ _⟩
  have R0 := Lib.hid r0; clear r0 k1
  have HG := Lib.hid hG; clear hG
  go_loopw [5, 6] (fun v c wr => ∃ (k : Nat) (vb u : Value), u = v ∧ k ≤ N ∧ c = .int .i64 k ∧ Hid (OpT S r G k u vb wr) ∧ Hid (Below G w wr) ∧ G < wr.heap.size) (fun _ c _ => N - (jInt c).toNat)
  case atStart => exact ⟨0, _, _, rfl, Nat.zero_le _, rfl, R0, hB1, hGw⟩
  case round =>
    clear R0 hB1 hGw
    obtain ⟨k, vb, v, rfl, hk, rfl, hR, hbw, hGr⟩ := hrel
    obtain ⟨sv, cv, rfl, _⟩ := own_slice hR.out.row
    obtain ⟨sb, cb, rfl, _⟩ := own_slice hR.out.bad
    have hov : ∀ b, (Value.slice sv k cv).ownBlock = some b → G + 1 ≤ b ∧ b < wr.heap.size := fun b hb => hR.out.row.lt b hb
    have hob : ∀ b, (Value.slice sb (badK S k).length cb).ownBlock = some b → (Value.slice sv k cv).ownBlock ≠ some b := fun b h1 h2 => own_types hR.out.row hR.out.bad (by decide) b h2 h1
    have hbl := badK_le S k
    have HOV := Lib.hid hov; clear hov
    have HOB := Lib.hid hob; clear hob
    have hpd := HPD.out.below (by rw [← HG.out]; exact hbw.out)
    have HPR := Lib.hid hpd; clear hpd
    go_wp2_with fail
    refine (HLN.out wr HPR.out).mono ?_
    rintro e w2 ⟨rfl, hw2⟩
    rw [hw2]
    clear hw2
    by_cases hlt : k < N
    · have hlc : ((k : Int) < N) = True := eq_true (by omega)
      obtain ⟨s, hs⟩ : ∃ s, s = S.getD k [] := ⟨_, rfl⟩
      have hrk := HRD.out k hlt
      have hkS : k < S.length := by rw [HSL.out]; exact hlt
      have hs2 : s = S[k] := by rw [hs, List.getD_eq_getElem?_getD, List.getElem?_eq_getElem hkS]; rfl
      rw [← hs] at hrk
      have hs64 : s.length = 64 := by rw [hs2]; exact HS64.out _ (List.getElem_mem hkS)
      have hread := rread_any r d (k : Int) wr HPR.out
      rw [hrk] at hread
      have HRR := Lib.hid hread; clear hread hrk
      have HS2 := Lib.hid hs2; clear hs2 hs
      have HS6 := Lib.hid hs64; clear hs64
      go_wp2_with fail
      refine HRR.out.mono ?_
      rintro e w3 ⟨rfl, hw3⟩
      rw [hw3]
      clear hw3 HRR
      go_wp2_with fail
      refine (runpack_any wr s (by rw [HS6.out]; decide) (HK.out.below hbw.out h1) (by omega)).mono ?_
      obtain ⟨p, hp⟩ : ∃ p, p = Jn.unpack s := ⟨_, rfl⟩
      rw [← hp]
      unfold prtV
      rintro e w4 ⟨rfl, b4⟩
      have HP := Lib.hid hp; clear hp
      have HB4 := Lib.hid b4; clear b4
      go_wp2_with (refine wpList_store_blk (ty := 102) (n := 5) (vs := prtC p) (Blk.new _ _ 102) rfl rfl rfl rfl rfl infoRP rfl (by simp) (prtC_one _) ?_)
      intro w5 k5 o5
      have k5' : Blk w5 w4.heap.size (prtC p) 102 := by simpa using k5
      have b5 : Below wr.heap.size wr w5 := HB4.out.trans ((o5.below (alloc_below _ _) (Nat.le_refl _)).mono HB4.out.size)
      have hR5h := hR.out.head.below b5 hGr
      have hR5r := own_below hR.out.row b5
      have hR5b := own_below hR.out.bad b5
      have hbw5 : Below G w w5 := hbw.out.trans (b5.mono (by omega))
      have hP5 : wr.heap.size ≤ w4.heap.size := HB4.out.size
      have lP5 : w4.heap.size < w5.heap.size := k5'.lt
      obtain ⟨P5, hP5e⟩ : ∃ P5, P5 = w4.heap.size := ⟨_, rfl⟩
      rw [← hP5e] at k5' hP5 lP5 ⊢
      clear k5 o5 b5 hP5e HB4 hbw hR
      have HK5 := Lib.hid k5'; clear k5'
      have HBW := Lib.hid hbw5; clear hbw5
      obtain ⟨i, hi1, hi2, hi3, hi4⟩ := info_parts infoRPart2
      have HRH := Lib.hid hR5h; clear hR5h
      have HROW := Lib.hid hR5r; clear hR5r
      have HRB := Lib.hid hR5b; clear hR5b
      have HI := Lib.hid (show i.zero = some (prtV prt0) ∧ i.size = 5 ∧ i.bytes = 48 from ⟨hi2, hi3, hi4⟩)
      have HI1 := Lib.hid hi1; clear hi1 hi2 hi3 hi4
      have hPG : G < P5 := by omega
      go_wp2_with (first | (refine wpList_load_agg [.int .i64 p.n, .int .i64 p.k, .int .i64 p.l, str p.b, .bool p.ok] HK5.out.cells0 rfl rfl rfl aggRP infoRP ?_) | (refine wpList_append_lies _ rfl _ _ 100 rfl (G + 1) 102 i (prtV prt0) 5 48 hTrparts HI1.out HI.out.1 HI.out.2.1 HI.out.2.2 rfl (by decide) _ k _ rfl (own_below HROW.out (alloc_below _ _)) ⟨w5.heap.size, 0, none⟩ 1 1 (prtC p) rfl rfl (World.news_of_block (Blk.new w5 #[.int .i64 p.n, .int .i64 p.k, .int .i64 p.l, str p.b, .bool p.ok] 102)) (prtC_one _) (by decide) (by unfold maxLen; omega) (by omega) (by simp; omega) _ rfl ?_))
      intro g cap w7 g1 g2 g3 g4
      have hPp : (S.take (k + 1)).map Jn.unpack = (S.take k).map Jn.unpack ++ [p] := by rw [List.take_succ_eq_append_getElem hkS, List.map_append, HP.out, HS2.out]; rfl
      have w7r : w7.ownsRow (G + 1) 102 5 (.slice (some ⟨g, 0, none⟩) (k + 1) cap) (k + 1) (prts ((S.take (k + 1)).map Jn.unpack)) := by
        rw [hPp]
        unfold prts
        rw [List.flatMap_append]
        simpa [prts] using g1
      have w7h := (HRH.out.alloc (.cells #[.int .i64 p.n, .int .i64 p.k, .int .i64 p.l, str p.b, .bool p.ok] 102)).grown g2 (fun e => by have := (HOV.out G e.symm).1; omega)
      have w7b := own_far (own_below HRB.out (alloc_below w5 (.cells #[.int .i64 p.n, .int .i64 p.k, .int .i64 p.l, str p.b, .bool p.ok] 102))) g2 (fun b hb e => HOB.out b hb e)
      have w7p := (HK5.out.alloc (.cells #[.int .i64 p.n, .int .i64 p.k, .int .i64 p.l, str p.b, .bool p.ok] 102)).grown g2 (fun e => by have := (HOV.out P5 e.symm).2; omega)
      have w7w : Below G w w7 := grown_below (base := G) (HBW.out.alloc (by omega) _) (own_weaken (own_below HROW.out (alloc_below w5 _)) (by omega)) g2 (by simp; omega)
      have w7s : G < w7.heap.size := w7h.lt
      have hgG : G + 1 ≤ g := by
        rcases g3 with g3 | g3
        · exact (HOV.out g g3).1
        · omega
      have hgo : ∀ b, (Value.slice sb (badK S k).length cb).ownBlock = some b → b ≠ g := fun b hb e => by
        subst e
        rcases g3 with g3 | g3
        · exact HOB.out b hb g3
        · have := HRB.out.lt b hb
          omega
      clear g1 g2 g3 hPp HROW HRH HRB HBW HK5 HI HI1
      have WR := Lib.hid w7r; clear w7r
      have WH := Lib.hid w7h; clear w7h
      have WB := Lib.hid w7b; clear w7b
      have WP := Lib.hid w7p; clear w7p
      have WW := Lib.hid w7w; clear w7w
      have HGO := Lib.hid hgo; clear hgo
      go_wp2_with fail
      refine (blank_any w7 s (by rw [HS6.out]; decide)).mono ?_
      rintro e w8 ⟨rfl, hw8⟩
      rw [hw8]
      clear hw8
      have hfs : finK S (k + 1) = if Jn.blank s then finK S k else k + 1 := by rw [finK_succ hkS, HS2.out]
      have hbs := badK_succ hkS
      rw [← HS2.out, ← HP.out] at hbs
      have hns := nextK_succ hkS
      rw [← HS2.out, ← HP.out] at hns
      have hnl := nextK_le S k
      have hfl := finK_le S k
      have HFS := Lib.hid hfs; clear hfs
      have HBS := Lib.hid hbs; clear hbs
      have HNS := Lib.hid hns; clear hns
      have hgb : p.ok = true → Jn.blank s = false := fun h => by
        rw [HP.out, unpack_ok] at h
        exact good_blank h
      have hpz : p.ok = false → p.n = 0 := fun h => by
        rw [HP.out] at h ⊢
        rw [unpack_ok] at h
        rw [unpack_bad h]; rfl
      have HGB := Lib.hid hgb; clear hgb
      have HPZ := Lib.hid hpz; clear hpz
      obtain ⟨nx, hnx⟩ : ∃ nx, nx = nextK S k := ⟨_, rfl⟩
      obtain ⟨fn, hfn⟩ : ∃ fn, fn = finK S k := ⟨_, rfl⟩
      obtain ⟨bk, hbk⟩ : ∃ bk, bk = badK S k := ⟨_, rfl⟩
      obtain ⟨z, hz⟩ : ∃ z, z = Jn.blank s := ⟨_, rfl⟩
      obtain ⟨pn, hpn⟩ : ∃ pn, pn = p.n := ⟨_, rfl⟩
      obtain ⟨po, hpo⟩ : ∃ po, po = p.ok := ⟨_, rfl⟩
      have hpn2 : pn ≤ 4096 := by rw [hpn, HP.out]; exact unpack_n s
      rw [← hnx] at hnl HNS
      rw [← hfn] at hfl HFS
      rw [← hbk] at WB HGO hbl HOB HBS
      rw [← hnx, ← hfn, ← hbk] at WH
      rw [← hz] at HFS HBS HGB ⊢
      rw [← hpn] at HNS HPZ
      rw [← hpo] at HBS HGB HPZ
      have q0 : w7.cell? ⟨P5, 0, none⟩ = some (.int .i64 (pn : Int)) := by rw [hpn]; exact WP.out.cell rfl
      have q4 : w7.cell? ⟨P5, 4, none⟩ = some (.bool po) := by rw [hpo]; exact WP.out.cell rfl
      have HNX := Lib.hid hnx; clear hnx
      have HFN := Lib.hid hfn; clear hfn
      have HBK := Lib.hid hbk; clear hbk
      have HPN := Lib.hid hpn; clear hpn
      have HPO := Lib.hid hpo; clear hpo
      have HZZ := Lib.hid hz; clear hz
      have hGP : P5 ≠ G := by omega
      have hwG : G ≤ w.heap.size := Nat.le_of_eq HG.out
      cases z with
      | true =>
        have hpf : po = false := by
          cases hq : po with
          | false => rfl
          | true => have := HGB.out hq; cases this
        subst hpf
        have hpn0 := HPZ.out rfl
        have c4 : w7.cell? ⟨G, 4, none⟩ = some (.int .i64 (nx : Int)) := WH.out.cell rfl
        have hge : ((nx : Int) ≤ pn) = False := eq_false (by omega)
        have hF : finK S (k + 1) = fn := by rw [HFS.out]; rfl
        have hB : badK S (k + 1) = bk := by rw [HBS.out]; simp
        have hN : nextK S (k + 1) = nx := by rw [HNS.out]; omega
        have HF := Lib.hid hF; clear hF
        have HBq := Lib.hid hB; clear hB
        have HNq := Lib.hid hN; clear hN
        go_upto_region 16 with (fail)
        refine wp_region_quiet_lit (by kernel_rfl) (by kernel_rfl) ?_
        repeat (go_big_quiet_step (rfl))
        refine wpQuiet_nil ?_
        rintro _ ⟨nq, rfl⟩
        have bq : Below w7.heap.size w7 (w7.drewN nq) := below_drewN (Below.refl _ _) nq
        have HBQ := Lib.hid bq; clear bq
        go_wp2
        go_roundw
        case rel => exact ⟨k + 1, _, _, rfl, by omega, by go_num, Lib.hid ⟨by rw [HNq.out, HF.out]; exact WH.out.below HBQ.out WH.out.lt, own_below WR.out HBQ.out, by rw [HBq.out]; exact own_below WB.out HBQ.out⟩, Lib.hid (WW.out.trans (HBQ.out.mono (Nat.le_of_lt w7s))), Nat.lt_of_lt_of_le w7s HBQ.out.size⟩
        case measure => simp [jInt]; omega
      | false =>
        have cf5 : w7.frozen? ⟨G, 5, none⟩ = false := WH.out.frozen 5
        have cc5 : w7.cell? ⟨G, 5, none⟩ = some (.int .i64 (fn : Int)) := WH.out.cell rfl
        have hF : finK S (k + 1) = k + 1 := by rw [HFS.out]; rfl
        have HF := Lib.hid hF; clear hF
        obtain ⟨w9, hw9⟩ : ∃ w9, w9 = w7.setCell ⟨G, 5, none⟩ (.int .i64 ((k : Int) + 1)) := ⟨_, rfl⟩
        have h9 : Blk w9 G [.pointer (some ⟨r.p, 0, none⟩), .slice none 0 0, .slice none 0 0, .slice sb bk.length cb, .int .i64 nx, .int .i64 ((k : Int) + 1), .bool false] 66 := by rw [hw9]; exact WH.out.set 5 _
        have r9 := own_set WR.out (a := ⟨G, 5, none⟩) (u := .int .i64 ((k : Int) + 1)) (fun b hb => by have := WR.out.lt b hb; simp; omega)
        have b9 := own_set WB.out (a := ⟨G, 5, none⟩) (u := .int .i64 ((k : Int) + 1)) (fun b hb => by have := WB.out.lt b hb; simp; omega)
        have p9 := WP.out.set_ne (a := ⟨G, 5, none⟩) (.int .i64 ((k : Int) + 1)) (by simpa using hGP)
        have l9 := below_set WW.out hwG (Nat.le_refl _) 5 (.int .i64 ((k : Int) + 1))
        rw [← hw9] at r9 b9 p9 l9
        go_upto_region 14 with (fail)
        rw [← hw9]
        clear hw9 q0 q4 cf5 cc5
        have H9 := Lib.hid h9; clear h9
        have R9 := Lib.hid r9; clear r9
        have B9 := Lib.hid b9; clear b9
        have P9 := Lib.hid p9; clear p9
        have L9 := Lib.hid l9; clear l9
        have hG9 : G < w9.heap.size := H9.out.lt
        have q0 : w9.cell? ⟨P5, 0, none⟩ = some (.int .i64 (pn : Int)) := by have := P9.out.cell (i := 0) rfl; rw [HPN.out]; exact this
        have q4 : w9.cell? ⟨P5, 4, none⟩ = some (.bool po) := by have := P9.out.cell (i := 4) rfl; rw [HPO.out]; exact this
        have c4 : w9.cell? ⟨G, 4, none⟩ = some (.int .i64 (nx : Int)) := H9.out.cell rfl
        have f4 : w9.frozen? ⟨G, 4, none⟩ = false := H9.out.frozen 4
        cases po with
        | true =>
          have hB : badK S (k + 1) = bk := by rw [HBS.out]; simp
          have HBq := Lib.hid hB; clear hB
          by_cases hpq : nx ≤ pn
          · have hge : ((nx : Int) ≤ pn) = True := eq_true (by omega)
            have hN : nextK S (k + 1) = pn + 1 := by rw [HNS.out]; omega
            have HNq := Lib.hid hN; clear hN
            go_upto_region 16 with (fail)
            refine wp_region_quiet_lit (by kernel_rfl) (by kernel_rfl) ?_
            repeat (go_big_quiet_step (rfl))
            refine wpQuiet_nil ?_
            rintro _ ⟨nq, rfl⟩
            have bq : Below w9.heap.size w9 (w9.drewN nq) := below_drewN (Below.refl _ _) nq
            have HBQ := Lib.hid bq; clear bq
            go_wp2
            go_roundw
            case rel => exact ⟨k + 1, _, _, rfl, by omega, by go_num, Lib.hid ⟨by rw [HNq.out, HF.out]; exact (H9.out.below HBQ.out hG9).set 4 _, own_set (own_below R9.out HBQ.out) (fun b hb => by have := R9.out.lt b hb; simp; omega), by rw [HBq.out]; exact own_set (own_below B9.out HBQ.out) (fun b hb => by have := B9.out.lt b hb; simp; omega)⟩, Lib.hid (below_set (L9.out.trans (HBQ.out.mono (Nat.le_of_lt hG9))) hwG (Nat.le_refl _) _ _), by have := HBQ.out.size; simp at this ⊢; omega⟩
            case measure => simp [jInt]; omega
          · have hge : ((nx : Int) ≤ pn) = False := eq_false (by omega)
            have hN : nextK S (k + 1) = nx := by rw [HNS.out]; omega
            have HNq := Lib.hid hN; clear hN
            go_upto_region 16 with (fail)
            refine wp_region_quiet_lit (by kernel_rfl) (by kernel_rfl) ?_
            repeat (go_big_quiet_step (rfl))
            refine wpQuiet_nil ?_
            rintro _ ⟨nq, rfl⟩
            have bq : Below w9.heap.size w9 (w9.drewN nq) := below_drewN (Below.refl _ _) nq
            have HBQ := Lib.hid bq; clear bq
            go_wp2
            go_roundw
            case rel => exact ⟨k + 1, _, _, rfl, by omega, by go_num, Lib.hid ⟨by rw [HNq.out, HF.out]; exact H9.out.below HBQ.out hG9, own_below R9.out HBQ.out, by rw [HBq.out]; exact own_below B9.out HBQ.out⟩, Lib.hid (L9.out.trans (HBQ.out.mono (Nat.le_of_lt hG9))), Nat.lt_of_lt_of_le hG9 HBQ.out.size⟩
            case measure => simp [jInt]; omega
        | false =>
          have hpn0 := HPZ.out rfl
          have hge : ((nx : Int) ≤ pn) = False := eq_false (by omega)
          have hB : badK S (k + 1) = bk ++ [k] := by rw [HBS.out]; simp
          have HBq := Lib.hid hB; clear hB
          have hN : nextK S (k + 1) = nx := by rw [HNS.out]; omega
          have HNq := Lib.hid hN; clear hN
          have c3 : w9.cell? ⟨G, 3, none⟩ = some (.slice sb bk.length cb) := H9.out.cell rfl
          obtain ⟨i, hi1, hi2, hi3, hi4⟩ := info_parts infoInt
          have HII := Lib.hid (show i.zero = some (.int .i64 0) ∧ i.size = 1 ∧ i.bytes = 8 from ⟨hi2, hi3, hi4⟩)
          have HI1 := Lib.hid hi1; clear hi1 hi2 hi3 hi4
          have hsz9 : G + 1 ≤ w9.heap.size := hG9
          go_wp2_with (refine wpList_append_lies _ rfl _ _ 51 rfl (G + 1) 3 i (.int .i64 0) 1 8 hTints HI1.out HII.out.1 HII.out.2.1 HII.out.2.2 rfl (by decide) _ bk.length _ rfl (own_below B9.out (alloc_below _ _)) ⟨w9.heap.size, 0, none⟩ 1 1 [_] rfl rfl (World.news_of_block (Blk.new w9 _ 3)) (by intro u hu; simp at hu; rw [hu]; rfl) (by decide) (by unfold maxLen; omega) (by omega) (by simp; omega) _ rfl ?_)
          intro g5 cap5 w10 m1 m2 m3 m4
          have h10 := (H9.out.alloc (.cells #[.int .i64 (k : Int)] 3)).grown m2 (fun e => by have := (B9.out.lt G e.symm).1; omega)
          have p10 := (P9.out.alloc (.cells #[.int .i64 (k : Int)] 3)).grown m2 (fun e => own_blk_ne B9.out P9.out (by decide) e.symm)
          have r10 := own_far (own_below R9.out (alloc_below w9 (.cells #[.int .i64 (k : Int)] 3))) m2 (fun b hb e => HGO.out b e (by simpa [Value.ownBlock] using hb.symm))
          have l10 : Below G w w10 := grown_below (base := G) (L9.out.alloc (by omega) _) (own_weaken (own_below B9.out (alloc_below w9 _)) (by omega)) m2 (by simp; omega)
          have b10 : w10.ownsRow (G + 1) 3 1 (.slice (some ⟨g5, 0, none⟩) (bk.length + 1) cap5) (bk.length + 1) (intsV (bk ++ [k])) := by
            have e : intsV (bk ++ [k]) = intsV bk ++ [.int .i64 (k : Int)] := by simp [intsV]
            rw [e]; exact m1
          have hgg5 : G + 1 ≤ g5 := by have := (b10.lt g5 rfl).1; exact this
          have H10 := Lib.hid h10; clear h10
          have P10 := Lib.hid p10; clear p10
          have R10 := Lib.hid r10; clear r10
          have L10 := Lib.hid l10; clear l10
          have B10 := Lib.hid b10; clear b10 m1 m2 m3 m4
          have cc3 : w10.cell? ⟨G, 3, none⟩ = some (.slice sb bk.length cb) := H10.out.cell rfl
          have cf3 : w10.frozen? ⟨G, 3, none⟩ = false := H10.out.frozen 3
          obtain ⟨w11, hw11⟩ : ∃ w11, w11 = w10.setCell ⟨G, 3, none⟩ (.slice (some ⟨g5, 0, none⟩) (bk.length + 1) cap5) := ⟨_, rfl⟩
          have h11 : Blk w11 G [.pointer (some ⟨r.p, 0, none⟩), .slice none 0 0, .slice none 0 0, .slice (some ⟨g5, 0, none⟩) (bk.length + 1) cap5, .int .i64 nx, .int .i64 ((k : Int) + 1), .bool false] 66 := by rw [hw11]; exact H10.out.set 3 _
          have p11 : Blk w11 P5 (prtC p) 102 := by rw [hw11]; exact P10.out.set_ne _ (by simpa using hGP)
          have r11 : w11.ownsRow (G + 1) 102 5 (.slice (some ⟨g, 0, none⟩) (k + 1) cap) (k + 1) (prts ((S.take (k + 1)).map Jn.unpack)) := by rw [hw11]; exact own_set R10.out (fun b hb => by have := R10.out.lt b hb; simp; omega)
          have b11 : w11.ownsRow (G + 1) 3 1 (.slice (some ⟨g5, 0, none⟩) (bk.length + 1) cap5) (bk.length + 1) (intsV (bk ++ [k])) := by rw [hw11]; exact own_set B10.out (fun b hb => by have := B10.out.lt b hb; simp; omega)
          have l11 : Below G w w11 := by rw [hw11]; exact below_set L10.out hwG (Nat.le_refl _) _ _
          have H11 := Lib.hid h11; clear h11
          have P11 := Lib.hid p11; clear p11
          have R11 := Lib.hid r11; clear r11
          have L11 := Lib.hid l11; clear l11
          have B11 := Lib.hid b11; clear b11
          go_upto_region 16 with (fail)
          rw [← hw11]
          clear hw11 cc3 cf3 q0 q4 c4 f4 c3
          have hG11 : G < w11.heap.size := H11.out.lt
          have q0 : w11.cell? ⟨P5, 0, none⟩ = some (.int .i64 (pn : Int)) := by have := P11.out.cell (i := 0) rfl; rw [HPN.out]; exact this
          have c4 : w11.cell? ⟨G, 4, none⟩ = some (.int .i64 (nx : Int)) := H11.out.cell rfl
          refine wp_region_quiet_lit (by kernel_rfl) (by kernel_rfl) ?_
          repeat (go_big_quiet_step (rfl))
          refine wpQuiet_nil ?_
          rintro _ ⟨nq, rfl⟩
          have bq : Below w11.heap.size w11 (w11.drewN nq) := below_drewN (Below.refl _ _) nq
          have HBQ := Lib.hid bq; clear bq
          go_wp2
          go_roundw
          case rel => exact ⟨k + 1, _, _, rfl, by omega, by go_num, Lib.hid ⟨by rw [HNq.out, HF.out]; exact H11.out.below HBQ.out hG11, own_below R11.out HBQ.out, by rw [HBq.out, List.length_append]; exact own_below B11.out HBQ.out⟩, Lib.hid (L11.out.trans (HBQ.out.mono (Nat.le_of_lt hG11))), Nat.lt_of_lt_of_le hG11 HBQ.out.size⟩
          case measure => simp [jInt]; omega
    · obtain rfl : k = N := by omega
      have hlc : ((k : Int) < k) = False := eq_false (by omega)
      have hN1 : 1 ≤ k := by have := HPD.out.ok.pos; rw [HN.out]; exact this
      have hrow := hR.out.row
      rw [List.take_of_length_le (by rw [HSL.out]; exact Nat.le_refl _)] at hrow
      obtain ⟨PL, hPL⟩ : ∃ PL, PL = S.map Jn.unpack := ⟨_, rfl⟩
      rw [← hPL] at hrow
      have hPl : PL.length = k := by rw [hPL, List.length_map, HSL.out]
      have hPb : ∀ p ∈ PL, p.l ≤ 8000 ∧ p.k < 65536 ∧ p.n ≤ 4096 ∧ p.b.length ≤ 48 := fun p hp => by
        rw [hPL] at hp
        obtain ⟨s, _, rfl⟩ := List.mem_map.1 hp
        exact ⟨unpack_l s, unpack_k s, unpack_n s, unpack_b s⟩
      obtain ⟨pg, pc, sp, hpe, hpg, hpc, hpm, hPB⟩ := own_blk hrow (by omega)
      rw [hpe]
      clear hpe
      obtain ⟨vb, hvb⟩ : ∃ vb, vb = Value.slice sb (badK S k).length cb := ⟨_, rfl⟩
      rw [← hvb] at hR
      have q0 : OpU PL r G pg 0 [] (.slice none 0 0) vb (.slice none 0 0) (badK S k) (nextK S k) (finK S k) w wr :=
        ⟨hR.out.head, ⟨sp, hPB⟩, World.ownsRow_nil _ _ _ _, World.ownsRow_nil _ _ _ _, hR.out.bad, (fun b hb => by cases hb), by rw [List.drop_zero], Nat.zero_le _, hbw.out⟩
      have Q0 := Lib.hid q0; clear q0 hPB hrow hR hbw
      have hGN : nextK S k ≤ 4097 ∧ finK S k ≤ 4096 ∧ (badK S k).length ≤ 4096 := ⟨(nextK_le S k).2, Nat.le_trans (finK_le S k) (by omega), Nat.le_trans (badK_le S k) (by omega)⟩
      have HFD : Hid (found (parts0 d) = ⟨scanL PL [], badK S k, nextK S k, finK S k, false⟩) := Lib.hid (by rw [found_eq, ← HS.out, hPL, HSL.out])
      obtain ⟨bk, hbk⟩ : ∃ bk, bk = badK S k := ⟨_, rfl⟩
      obtain ⟨nx, hnx⟩ : ∃ nx, nx = nextK S k := ⟨_, rfl⟩
      obtain ⟨fn, hfn⟩ : ∃ fn, fn = finK S k := ⟨_, rfl⟩
      have hnx1 : 1 ≤ nx := by rw [hnx]; exact (nextK_le S k).1
      rw [← hbk, ← hnx, ← hfn] at Q0 HFD hGN
      have HPLL := Lib.hid hPl; clear hPl
      have HPB := Lib.hid hPb; clear hPb
      clear hbk hnx hfn hvb hlt hPL HS64 HRD HSL
      have HPM := Lib.hid hpm; clear hpm
      go_wp2_with fail
      go_loopw [11] (fun c wr => ∃ (q : Nat) (a : List (Nat × List UInt8)) (vn vt : Value), q ≤ k ∧ c = .int .i64 q ∧ Hid (OpU PL r G pg q a vn vb vt bk nx fn w wr)) (fun c _ => k - (jInt c).toNat)
      case atStart => exact ⟨0, [], _, _, Nat.zero_le _, rfl, Q0⟩
      case round =>
        clear Q0
        obtain ⟨q, a, vn, vt, hq, rfl, hQ⟩ := hrel
        obtain ⟨sn, cn, rfl, _⟩ := own_slice hQ.out.rn
        obtain ⟨st, ct, rfl, _⟩ := own_slice hQ.out.rt
        by_cases hlt : q < k
        · have hlc2 : ((q : Int) < k) = True := eq_true (by omega)
          have hqP : q < PL.length := by rw [HPLL.out]; exact hlt
          obtain ⟨x, t, hxr⟩ : ∃ x t, PL.drop q = x :: t := ⟨_, _, List.drop_eq_getElem_cons hqP⟩
          have hxm : ∀ p ∈ x :: t, p ∈ PL := fun p hp => by rw [← hxr] at hp; exact List.mem_of_mem_drop hp
          have hxb := HPB.out x (hxm x List.mem_cons_self)
          have hlr : (x :: t).length = k - q := by rw [← hxr, List.length_drop, HPLL.out]
          obtain ⟨sp, hPp⟩ := hQ.out.parts
          have hcell : ∀ (j : Nat) (hj : q + j < k) (W : World), Below wr.heap.size wr W → Cells W pg ((q + j) * 5) (prtC ((x :: t).getD j prt0)) := fun j hj W hb => by
            have h1 : Cells wr pg 0 (prts PL) := hPp.cells 0 _ (by rw [List.drop_zero, List.take_left])
            have h2 := prts_cells h1 (k := q + j) (by rw [HPLL.out]; exact hj)
            rw [Nat.zero_add] at h2
            have e : PL[q + j]'(by rw [HPLL.out]; exact hj) = (x :: t).getD j prt0 := by
              rw [← hxr, List.getD_eq_getElem?_getD, List.getElem?_drop, List.getElem?_eq_getElem (by rw [HPLL.out]; exact hj)]
              rfl
            rw [e] at h2
            exact h2.below hb hPp.lt
          have HCL := Lib.hid hcell; clear hcell
          have hc0 := HCL.out 0 (by omega) wr (Below.refl _ _)
          rw [Nat.add_zero, show (x :: t).getD 0 prt0 = x from rfl] at hc0
          have HC0 := Lib.hid hc0; clear hc0 hPp
          have HXR := Lib.hid hxr; clear hxr
          have HXM := Lib.hid hxm; clear hxm
          have HLR := Lib.hid hlr; clear hlr
          go_wp2_with (first | (refine wpList_load_agg (prtC x) HC0.out rfl rfl rfl aggRP infoRP ?_) | (refine wpList_store_blk (ty := 102) (n := 5) (vs := prtC x) (Blk.new _ _ 102) rfl rfl rfl rfl rfl infoRP rfl (by simp) (prtC_one _) ?_))
          intro w3 k3 o3
          have b3 : Below wr.heap.size wr w3 := o3.below (alloc_below _ _) (Nat.le_refl _)
          obtain ⟨T, hT⟩ : ∃ T, T = wr.heap.size := ⟨_, rfl⟩
          have k3' : Blk w3 T (prtC x) 102 := by rw [hT]; simpa using k3
          rw [← hT]
          have HQ3 := Lib.hid (hQ.out.below b3); clear hQ
          have HK3 := Lib.hid k3'; clear k3' k3 o3
          have HB3 := Lib.hid b3; clear b3
          have HT := Lib.hid hT; clear hT
          have x0 : w3.cell? ⟨T, 0, none⟩ = some (.int .i64 (x.n : Int)) := HK3.out.cell rfl
          have x1 : w3.cell? ⟨T, 1, none⟩ = some (.int .i64 (x.k : Int)) := HK3.out.cell rfl
          have x2 : w3.cell? ⟨T, 2, none⟩ = some (.int .i64 (x.l : Int)) := HK3.out.cell rfl
          have x4 : w3.cell? ⟨T, 4, none⟩ = some (.bool x.ok) := HK3.out.cell rfl
          go_wp2_with fail
          refine (rcount_any (x.l : Int) w3).mono ?_
          rintro e w4 ⟨rfl, hw4⟩
          rw [hw4, cntI_nat]
          clear hw4
          obtain ⟨n, hn⟩ : ∃ n, n = cntN x.l := ⟨_, rfl⟩
          have hnp := cntN_pos hxb.1
          have hnle := cntN_le hxb.1
          rw [← hn] at hnp hnle ⊢
          have HN2 := Lib.hid hn; clear hn
          obtain ⟨rv, hrv⟩ : ∃ rv, rv = recV (x :: t) := ⟨_, rfl⟩
          have HRV := Lib.hid hrv; clear hrv
          obtain ⟨wh, hwh⟩ : ∃ wh : Bool, wh = (x.ok && (decide (x.k = 0) && decide (q + n ≤ k))) := ⟨_, rfl⟩
          have HWH := Lib.hid hwh; clear hwh
          have HXB := Lib.hid hxb; clear hxb
          go_upto_region 23 with (fail)
          go_cut [15] (fun v wc => v = .bool wh ∧ wc = w3)
          case first =>
            by_cases g1 : x.ok = true
            · rw [g1] at x4
              have hwh := HWH.out
              rw [g1, Bool.true_and] at hwh
              by_cases g2 : x.k = 0
              · have g2i : ((x.k : Int) == 0) = true := by simp [g2]
                rw [decide_eq_true g2, Bool.true_and] at hwh
                have hs1 : (q : Int) + n ≤ 4300 := by omega
                by_cases g3 : q + n ≤ k
                · have g3i : ((q : Int) + n ≤ k) = True := eq_true (by omega)
                  rw [decide_eq_true g3] at hwh
                  have HW2 := Lib.hid hwh; clear hwh g2
                  go_wp2
                  go_meet
                  exact ⟨by rw [HW2.out], rfl⟩
                · have g3i : ((q : Int) + n ≤ k) = False := eq_false (by omega)
                  rw [decide_eq_false g3] at hwh
                  have HW2 := Lib.hid hwh; clear hwh g2
                  go_wp2
                  go_meet
                  exact ⟨by rw [HW2.out], rfl⟩
              · have g2i : ((x.k : Int) == 0) = false := by simp; omega
                rw [decide_eq_false g2, Bool.false_and] at hwh
                have HW2 := Lib.hid hwh; clear hwh g2
                go_wp2
                go_meet
                exact ⟨by rw [HW2.out], rfl⟩
            · have g1' : x.ok = false := by simpa using g1
              rw [g1'] at x4
              have hwh := HWH.out
              rw [g1', Bool.false_and] at hwh
              have HW2 := Lib.hid hwh; clear hwh g1 g1'
              go_wp2
              go_meet
              exact ⟨by rw [HW2.out], rfl⟩
          case rest =>
            obtain ⟨hwv, hwc⟩ := hcut
            subst hwv
            rw [hwc]
            clear hwc x0 x1 x2 x4
            have hi0 : InU x (x :: t) rv wh w3 w3 0 [] wh := ⟨Nat.zero_le _, Below.refl _ _, fun h => ⟨h, fun j hj => absurd hj (Nat.not_lt_zero _), rfl⟩, fun h => by
              rw [HRV.out, recV_eq, if_neg]
              rintro ⟨h1, h2, h3, _⟩
              rw [HLR.out, ← HN2.out] at h3
              have h4 := HWH.out
              rw [h, h1, decide_eq_true h2, Bool.true_and, Bool.true_and] at h4
              have h5 : q + n ≤ k := by omega
              rw [decide_eq_true h5] at h4
              cases h4⟩
            have HI0 := Lib.hid hi0; clear hi0
            obtain ⟨wo, hwo⟩ : ∃ wo : World, wo = wr := ⟨_, rfl⟩
            rw [← hwo] at HB3 HC0 HCL
            clear hwo
            go_wp2_with fail
            go_loopw [14, 15, 16] (fun tv bv c wi => ∃ (i : Nat) (tt : List UInt8) (wb : Bool), tv = str tt ∧ bv = .bool wb ∧ c = .int .i64 i ∧ i ≤ n ∧ Hid (InU x (x :: t) rv wh w3 wi i tt wb)) (fun _ _ c _ => n - (jInt c).toNat)
            case atStart => exact ⟨0, _, wh, rfl, rfl, rfl, Nat.zero_le _, HI0⟩
            case round =>
              clear HI0
              obtain ⟨i, tt, wb, rfl, rfl, rfl, hin, HI⟩ := hrel
              cases wb with
              | false =>
                have hrvf := HI.out.no rfl
                have hQ9 := HQ3.out.below HI.out.b
                have hsc : scanL (PL.drop (q + 1)) a = scanL PL [] := by
                  have h1 := hQ9.sc
                  rw [HXR.out, scanL_none (recV_none (by rw [← HRV.out, hrvf]))] at h1
                  rw [← h1, show PL.drop (q + 1) = (PL.drop q).drop 1 by rw [List.drop_drop], HXR.out]
                  rfl
                have hQ10 : OpU PL r G pg (q + 1) a (.slice sn a.length cn) vb (.slice st a.length ct) bk nx fn w wr := ⟨hQ9.head, hQ9.parts, hQ9.rn, hQ9.rt, hQ9.rb, hQ9.nb, hsc, Nat.le_succ_of_le hQ9.al, hQ9.low⟩
                have HQ10 := Lib.hid hQ10; clear hQ10 hQ9 hsc hrvf
                go_wp2
                go_roundw
                case rel => exact ⟨q + 1, a, _, _, by omega, by go_num, HQ10⟩
                case measure => simp [jInt]; omega
              | true =>
                obtain ⟨hwt, hfit, htt⟩ := HI.out.yes rfl
                have hqn : q + n ≤ k := by
                  have h4 := HWH.out
                  rw [hwt] at h4
                  have h5 := (Bool.and_eq_true_iff.1 h4.symm).2
                  exact of_decide_eq_true (Bool.and_eq_true_iff.1 h5).2
                have HFI := Lib.hid hfit; clear hfit
                have HTT := Lib.hid htt; clear htt
                have HWT := Lib.hid hwt; clear hwt
                by_cases hin2 : i < n
                · have hini : ((i : Int) < n) = True := eq_true (by omega)
                  have hqi : q + i < k := by omega
                  obtain ⟨y, hy⟩ : ∃ y, y = (x :: t).getD i prt0 := ⟨_, rfl⟩
                  have hyl : i < (x :: t).length := by rw [HLR.out]; omega
                  have hye : y = (x :: t)[i] := by rw [hy, List.getD_eq_getElem?_getD, List.getElem?_eq_getElem hyl]; rfl
                  have hyb := HPB.out y (HXM.out y (by rw [hye]; exact List.getElem_mem hyl))
                  have hcy := HCL.out i hqi wr (HB3.out.trans (HI.out.b.mono HB3.out.size))
                  rw [← hy] at hcy
                  have HCY := Lib.hid hcy; clear hcy
                  have HY := Lib.hid hy; clear hy
                  have HYE := Lib.hid hye; clear hye
                  have hs2 : (q : Int) + i ≤ 4300 := by omega
                  have hs3 : ((q : Int) + i < k) = True := eq_true (by omega)
                  have hs4 : (0 : Int) ≤ (q : Int) + i := by omega
                  go_wp2_with (first | (refine wpList_load_agg (prtC y) HCY.out rfl rfl rfl aggRP infoRP ?_) | (refine wpList_store_blk (ty := 102) (n := 5) (vs := prtC y) (Blk.new _ _ 102) rfl rfl rfl rfl rfl infoRP rfl (by simp) (prtC_one _) ?_))
                  intro w6 k6 o6
                  have b6 : Below wr.heap.size wr w6 := o6.below (alloc_below _ _) (Nat.le_refl _)
                  obtain ⟨T2, hT2⟩ : ∃ T2, T2 = wr.heap.size := ⟨_, rfl⟩
                  have k6' : Blk w6 T2 (prtC y) 102 := by rw [hT2]; simpa using k6
                  rw [← hT2]
                  have HK6 := Lib.hid k6'; clear k6' k6 o6 hT2
                  have hb36 : Below w3.heap.size w3 w6 := HI.out.b.trans (b6.mono HI.out.b.size)
                  have HB36 := Lib.hid hb36; clear hb36 b6
                  have HX6 := Lib.hid (HK3.out.below HB36.out HK3.out.lt)
                  have y0 : w6.cell? ⟨T2, 0, none⟩ = some (.int .i64 (y.n : Int)) := HK6.out.cell rfl
                  have y1 : w6.cell? ⟨T2, 1, none⟩ = some (.int .i64 (y.k : Int)) := HK6.out.cell rfl
                  have y2 : w6.cell? ⟨T2, 2, none⟩ = some (.int .i64 (y.l : Int)) := HK6.out.cell rfl
                  have y4 : w6.cell? ⟨T2, 4, none⟩ = some (.bool y.ok) := HK6.out.cell rfl
                  have x0 : w6.cell? ⟨T, 0, none⟩ = some (.int .i64 (x.n : Int)) := HX6.out.cell rfl
                  have x2 : w6.cell? ⟨T, 2, none⟩ = some (.int .i64 (x.l : Int)) := HX6.out.cell rfl
                  have hxl := HXB.out.1
                  go_upto_region 28 with (fail)
                  go_cut [15] (fun v wc => v = .bool (fits x y i) ∧ wc = w6)
                  case first =>
                    by_cases e1 : y.ok = true
                    · rw [e1] at y4
                      by_cases e2 : y.n = x.n
                      · have e2i : ((y.n : Int) == (x.n : Int)) = true := by simp [e2]
                        by_cases e3 : y.k = i
                        · have e3i : ((y.k : Int) == (i : Int)) = true := by simp [e3]
                          by_cases e4 : y.l + 48 * i = x.l
                          · have e4i : ((y.l : Int) == (x.l : Int) - 48 * i) = true := by simp; omega
                            have hft : fits x y i = true := by unfold fits; rw [e1, decide_eq_true e2, decide_eq_true e3, decide_eq_true e4]; rfl
                            have HFT := Lib.hid hft; clear hft e2 e3 e4
                            go_wp2
                            go_meet
                            exact ⟨by rw [HFT.out], rfl⟩
                          · have e4i : ((y.l : Int) == (x.l : Int) - 48 * i) = false := by simp; omega
                            have hft : fits x y i = false := by unfold fits; rw [decide_eq_false e4, Bool.and_false]
                            have HFT := Lib.hid hft; clear hft e2 e3 e4
                            go_wp2
                            go_meet
                            exact ⟨by rw [HFT.out], rfl⟩
                        · have e3i : ((y.k : Int) == (i : Int)) = false := by simp; omega
                          have hft : fits x y i = false := by unfold fits; rw [decide_eq_false e3, Bool.and_false, Bool.false_and]
                          have HFT := Lib.hid hft; clear hft e2 e3
                          go_wp2
                          go_meet
                          exact ⟨by rw [HFT.out], rfl⟩
                      · have e2i : ((y.n : Int) == (x.n : Int)) = false := by simp; omega
                        have hft : fits x y i = false := by unfold fits; rw [decide_eq_false e2, Bool.and_false, Bool.false_and, Bool.false_and]
                        have HFT := Lib.hid hft; clear hft e2
                        go_wp2
                        go_meet
                        exact ⟨by rw [HFT.out], rfl⟩
                    · have e1' : y.ok = false := by simpa using e1
                      rw [e1'] at y4
                      have hft : fits x y i = false := by unfold fits; rw [e1']; rfl
                      have HFT := Lib.hid hft; clear hft e1 e1'
                      go_wp2
                      go_meet
                      exact ⟨by rw [HFT.out], rfl⟩
                  case rest =>
                    obtain ⟨hwv, hwc⟩ := hcut
                    subst hwv
                    rw [hwc]
                    clear hwc x0 x2 y0 y1 y2 y4
                    have y3 : w6.cell? ⟨T2, 3, none⟩ = some (str y.b) := HK6.out.cell rfl
                    have hI2 : InU x (x :: t) rv wh w3 w6 (i + 1) (tt ++ y.b) (fits x y i) := ⟨by rw [List.length_append]; have := HI.out.len; have := hyb.2.2.2; omega, HB36.out, fun h => ⟨HWT.out, fun j hj => by
                      by_cases hji : j = i
                      · subst hji; rw [← HY.out]; exact h
                      · exact HFI.out j (by omega), by rw [txtK_succ hyl, ← HTT.out, ← HYE.out]⟩, fun h => by
                      rw [HRV.out]
                      exact recV_no (k := i) (by rw [← HN2.out]; exact hin2) (by rw [← HY.out]; exact h)⟩
                    have HI2 := Lib.hid hI2; clear hI2
                    have htb : tt.length + y.b.length ≤ 9223372036854775807 := by have h1 := HI.out.len; have h2 := hyb.2.2.2; omega
                    go_wp2
                    refine ⟨⟨i + 1, _, _, rfl, rfl, by go_num, by omega, HI2⟩, by simp [jInt]; omega⟩
                · obtain rfl : n = i := by omega
                  have hini : ((n : Int) < n) = False := eq_false (by omega)
                  have hxo : x.ok = true ∧ x.k = 0 := by
                    have h4 := HWH.out
                    rw [HWT.out] at h4
                    have h5 := Bool.and_eq_true_iff.1 h4.symm
                    exact ⟨h5.1, of_decide_eq_true (Bool.and_eq_true_iff.1 h5.2).1⟩
                  have hrv2 : rv = (txtK (x :: t) n, n, true) := by
                    rw [HRV.out, recV_eq, if_pos ⟨hxo.1, hxo.2, by rw [← HN2.out, HLR.out]; omega, fun j hj => HFI.out j (by rw [HN2.out]; exact hj)⟩, ← HN2.out]
                    rfl
                  have hra : recAt (x :: t) = some (tt, n) := by
                    have h1 := recV_some (x := x) (r := t) (by rw [← HRV.out, hrv2])
                    rw [← HRV.out, hrv2] at h1
                    rw [h1, HTT.out]
                  have hQ9 := HQ3.out.below HI.out.b
                  have hsc0 := hQ9.sc
                  rw [HXR.out, scanL_some hra] at hsc0
                  have hdr : t.drop (n - 1) = PL.drop (q + n) := by
                    rw [← List.drop_drop, HXR.out, show n = (n - 1) + 1 by omega, List.drop_succ_cons]
                    simp
                  rw [hdr] at hsc0
                  have hany : (a.any fun z => decide (z.1 = x.n)) = (a.map Prod.fst).contains x.n := by
                    rw [Bool.eq_iff_iff, List.any_eq_true, List.contains_iff_mem, List.mem_map]
                    constructor
                    · rintro ⟨z, hz, h⟩; exact ⟨z, hz, of_decide_eq_true h⟩
                    · rintro ⟨z, hz, h⟩; exact ⟨z, hz, decide_eq_true h⟩
                  obtain ⟨c0, hc0⟩ : ∃ b, b = (a.map Prod.fst).contains x.n := ⟨_, rfl⟩
                  rw [hany, ← hc0] at hsc0
                  have HSC := Lib.hid hsc0; clear hsc0 hdr hany hra hrv2 hxo
                  have hal := hQ9.al
                  have HQ9 := Lib.hid hQ9; clear hQ9
                  have HT9 := Lib.hid (HK3.out.below HI.out.b HK3.out.lt)
                  have cG1 : wr.cell? ⟨G, 1, none⟩ = some (.slice sn a.length cn) := HQ9.out.head.cell rfl
                  have cT0 : wr.cell? ⟨T, 0, none⟩ = some (.int .i64 (x.n : Int)) := HT9.out.cell rfl
                  have hhas : ∀ nq, Calls Tryz.prog 57 #[.slice sn a.length cn, .int .i64 (x.n : Int)] (wr.drewN nq) fun e w' => e = .returned (.bool c0) ∧ w' = wr.drewN nq := fun nq => by
                    have := has_any (a.map Prod.fst) x.n sn cn (wr.drewN nq) (by rw [List.length_map]; exact (Sl.of_owns HQ9.out.rn).below (below_drewN (Below.refl _ wr) nq)) (by rw [List.length_map]; omega)
                    rw [List.length_map, ← hc0] at this
                    exact this
                  have HHAS := Lib.hid hhas; clear hhas hc0
                  have hnn : (q : Int) + n ≤ 4300 := by omega
                  go_upto_region 32 with (fail)
                  refine wp_region_quiet_lit (by kernel_rfl) (by kernel_rfl) ?_
                  repeat (go_big_quiet_step (first | exact Calls.quiet_of_same (HHAS.out _) | rfl))
                  refine wpQuiet_nil ?_
                  rintro _ ⟨nq, rfl⟩
                  have bq : Below wr.heap.size wr (wr.drewN nq) := below_drewN (Below.refl _ _) nq
                  have HQ10 := Lib.hid (HQ9.out.below bq)
                  have HT10 := Lib.hid (HT9.out.below bq HT9.out.lt)
                  obtain ⟨w9, hw9⟩ : ∃ w9, w9 = wr.drewN nq := ⟨_, rfl⟩
                  rw [← hw9] at HQ10 HT10 ⊢
                  clear hw9 bq HQ9 HT9 cG1 cT0 HHAS
                  cases c0 with
                  | true =>
                    have hQ11 : OpU PL r G pg (q + n) a (.slice sn a.length cn) vb (.slice st a.length ct) bk nx fn w w9 := ⟨HQ10.out.head, HQ10.out.parts, HQ10.out.rn, HQ10.out.rt, HQ10.out.rb, HQ10.out.nb, HSC.out, by omega, HQ10.out.low⟩
                    have HQ11 := Lib.hid hQ11; clear hQ11
                    go_wp2
                    go_roundw
                    case rel => exact ⟨q + n, a, _, _, by omega, by go_num, HQ11⟩
                    case measure => simp [jInt]; omega
                  | false =>
                    have hsc2 := HSC.out
                    rw [if_neg Bool.false_ne_true] at hsc2
                    have HSC2 := Lib.hid hsc2; clear hsc2
                    have cG1 : w9.cell? ⟨G, 1, none⟩ = some (.slice sn a.length cn) := HQ10.out.head.cell rfl
                    have cT0 : w9.cell? ⟨T, 0, none⟩ = some (.int .i64 (x.n : Int)) := HT10.out.cell rfl
                    have hGl9 : G < w9.heap.size := HQ10.out.head.lt
                    have hTl9 : T < w9.heap.size := HT10.out.lt
                    haveI : Nonempty (SqC.Come fun W' : World => W'.cell? ⟨G, 1, none⟩ = some (.slice sn a.length cn) ∧ W'.cell? ⟨T, 0, none⟩ = some (.int .i64 (x.n : Int))) := ⟨⟨w9, cG1, cT0⟩⟩
                    have hE0 : w9.drew.cell? ⟨G, 1, none⟩ = some (.slice sn a.length cn) ∧ w9.drew.cell? ⟨T, 0, none⟩ = some (.int .i64 (x.n : Int)) := ⟨(((Below.refl w9.heap.size w9).drew).cell (p := ⟨G, 1, none⟩) hGl9).trans cG1, (((Below.refl w9.heap.size w9).drew).cell (p := ⟨T, 0, none⟩) hTl9).trans cT0⟩
                    go_upto_region 34 with (fail)
                    refine SqC.wp_region_sqc 12 [7, 8, 11] (fun W' : World => W'.cell? ⟨G, 1, none⟩ = some (.slice sn a.length cn) ∧ W'.cell? ⟨T, 0, none⟩ = some (.int .i64 (x.n : Int))) (by kernel_rfl) (by kernel_rfl) (by kernel_rfl) hE0 ?_
                    obtain ⟨w10, hw10⟩ : ∃ w10, w10 = w9.drew := ⟨_, rfl⟩
                    have bd10 : Below w9.heap.size w9 w10 := by rw [hw10]; exact (Below.refl w9.heap.size w9).drew
                    have HQ11 := Lib.hid (HQ10.out.below bd10)
                    have HT11 := Lib.hid (HT10.out.below bd10 HT10.out.lt)
                    rw [← hw10]
                    clear hw10 bd10 hE0 cG1 cT0 HQ10 HT10
                    iterate 4 (refine SqC.quiet rfl rfl ?_; go_big_quiet_step (rfl); refine wpQuiet_nil ?_)
                    refine SqC.value (.slice sn a.length cn) rfl rfl (by intro W' hW'; obtain ⟨h1, h2⟩ := hW'; go_simp) ?_
                    simp only [Act.put, List.setIfInBounds_toArray, List.set_cons_zero, List.set_cons_succ]
                    iterate 1 (refine SqC.quiet rfl rfl ?_; go_big_quiet_step (rfl); refine wpQuiet_nil ?_)
                    refine SqC.value (.int .i64 (x.n : Int)) rfl rfl (by intro W' hW'; obtain ⟨h1, h2⟩ := hW'; go_simp) ?_
                    simp only [Act.put, List.setIfInBounds_toArray, List.set_cons_zero, List.set_cons_succ]
                    refine SqC.effectW rfl rfl ?_
                    go_wp2
                    obtain ⟨w11, hw11⟩ : ∃ w11, w11 = w10.alloc (.cells #[.int .i64 (x.n : Int)] 3) := ⟨_, rfl⟩
                    obtain ⟨b1, hb1⟩ : ∃ b1, b1 = w10.heap.size := ⟨_, rfl⟩
                    have hbl : Below w10.heap.size w10 w11 := by rw [hw11]; exact alloc_below _ _
                    have HO1 : Hid (w11.ownsRow (G + 1) 3 1 (.slice (some ⟨b1, 0, none⟩) 1 1) 1 [.int .i64 (x.n : Int)]) := Lib.hid (by rw [hw11, hb1]; exact own_new w10 #[.int .i64 (x.n : Int)] 3 1 _ rfl (by decide) (by have := HQ11.out.head.lt; omega))
                    have HQ12 := Lib.hid (HQ11.out.below hbl)
                    have HT12 := Lib.hid (HT11.out.below hbl HT11.out.lt)
                    rw [← hw11, ← hb1]
                    clear hw11 hb1 hbl HQ11 HT11
                    refine SqC.here rfl (fun _ => ⟨HQ12.out.head.cell rfl, HT12.out.cell rfl⟩) ?_
                    refine SqC.effectW rfl rfl ?_
                    refine wpList_append_szg rfl _ _ 51 rfl (G + 1) 3 (.int .i64 0) 8 hTints infoInt rfl (.slice sn a.length cn) a.length (intsV (a.map Prod.fst)) rfl HQ12.out.rn (some ⟨b1, 0, none⟩) 1 1 [.int .i64 (x.n : Int)] rfl (fun _ => Sl.of_owns HO1.out) rfl (by intro u hu; simp at hu; rw [hu]; rfl) (by unfold maxLen; omega) (by omega) (by have := HQ12.out.head.lt; omega) ?_
                    intro v2 w12 ow2 gr2 lo2
                    obtain ⟨g5, cap5, _, hv2, _, _, _, _⟩ := own_blk ow2 (by omega)
                    subst hv2
                    have hh12 := HQ12.out.head.grown gr2 (fun e => by have := (HQ12.out.rn.lt G e.symm).1; omega)
                    have ht12 := HT12.out.grown gr2 (fun e => own_blk_ne HQ12.out.rn HT12.out (by decide) e.symm)
                    have hV := HQ12.out.num gr2 ow2 (lo2 g5 rfl) (by have := HG.out; omega)
                    have hTG : T ≠ G := fun e => by subst e; exact absurd (blk_ty HT12.out HQ12.out.head) (by decide)
                    have hT13 := ht12.set_ne (a := ⟨G, 1, none⟩) (.slice (some ⟨g5, 0, none⟩) (a.length + 1) cap5) (by simpa using hTG)
                    have cf1 : w12.frozen? ⟨G, 1, none⟩ = false := hh12.frozen 1
                    have cc1 : w12.cell? ⟨G, 1, none⟩ = some (.slice sn a.length cn) := hh12.cell rfl
                    have HV := Lib.hid hV; clear hV
                    have HT13 := Lib.hid hT13; clear hT13
                    have HE12 : Hid (w12.cell? ⟨G, 1, none⟩ = some (.slice sn a.length cn) ∧ w12.cell? ⟨T, 0, none⟩ = some (.int .i64 (x.n : Int))) := Lib.hid ⟨cc1, ht12.cell rfl⟩
                    clear ow2 gr2 lo2 hh12 ht12 HO1 HQ12 HT12
                    go_wp2
                    refine SqC.here rfl (fun _ => HE12.out) ?_
                    iterate 2 (refine SqC.quiet rfl rfl ?_; go_big_quiet_step (rfl); refine wpQuiet_nil ?_)
                    refine SqC.effectW rfl rfl ?_
                    go_wp2
                    refine SqC.here rfl (fun h => absurd h (by simp)) ?_
                    refine SqC.nil ?_
                    obtain ⟨w13, hw13⟩ : ∃ w13, w13 = w12.setCell ⟨G, 1, none⟩ (.slice (some ⟨g5, 0, none⟩) (a.length + 1) cap5) := ⟨_, rfl⟩
                    have HV13 : Hid (OpV PL r G pg a x.n (.slice (some ⟨g5, 0, none⟩) (a.length + 1) cap5) vb (.slice st a.length ct) bk nx fn w w13) := Lib.hid (by rw [hw13]; exact HV.out)
                    rw [← hw13]
                    clear hw13 HV HT13 HE12 cf1 cc1
                    have cG2 : w13.cell? ⟨G, 2, none⟩ = some (.slice st a.length ct) := HV13.out.head.cell rfl
                    have hG13 : G + 1 ≤ w13.heap.size := HV13.out.head.lt
                    obtain ⟨i2, hi1, hi2, hi3, hi4⟩ := info_parts infoStr
                    have HII := Lib.hid (show i2.zero = some (str []) ∧ i2.size = 1 ∧ i2.bytes = 16 from ⟨hi2, hi3, hi4⟩)
                    have HI1 := Lib.hid hi1; clear hi1 hi2 hi3 hi4
                    go_wp2_with (refine wpList_append_lies _ rfl _ _ 22 rfl (G + 1) 9 i2 (str []) 1 16 hTss HI1.out HII.out.1 HII.out.2.1 HII.out.2.2 rfl (by decide) _ a.length _ rfl (own_below HV13.out.rt (alloc_below _ _)) ⟨w13.heap.size, 0, none⟩ 1 1 [_] rfl rfl (World.news_of_block (Blk.new w13 _ 9)) (by intro u hu; simp at hu; rw [hu]; rfl) (by decide) (by unfold maxLen; omega) (by omega) (by simp; omega) _ rfl ?_)
                    intro g6 cap6 w14 m1 m2 m3 m4
                    have hVa : OpV PL r G pg a x.n (.slice (some ⟨g5, 0, none⟩) (a.length + 1) cap5) vb (.slice st a.length ct) bk nx fn w (w13.alloc (.cells #[str tt] 9)) := HV13.out.below (alloc_below _ _)
                    have hU := hVa.txt (g2 := g6) (c2 := cap6) (t := tt) m2 (by rw [List.map_map]; exact m1) (by have := HG.out; omega) HSC2.out (show a.length + 1 ≤ q + n by omega)
                    have hh14 := hVa.head.grown m2 (fun e => by have := (hVa.rt.lt G e.symm).1; omega)
                    have cf2 : w14.frozen? ⟨G, 2, none⟩ = false := hh14.frozen 2
                    have cc2 : w14.cell? ⟨G, 2, none⟩ = some (.slice st a.length ct) := hh14.cell rfl
                    have HU := Lib.hid hU; clear hU m1 m2 m3 m4 hVa hh14
                    have hnn2 : (q : Int) + n ≤ 4300 := by omega
                    go_wp2
                    go_roundw
                    case rel => exact ⟨q + n, _, _, _, by omega, by go_num, HU⟩
                    case measure => simp [jInt]; omega
        · obtain rfl : q = k := by omega
          have hlc2 : ((q : Int) < q) = False := eq_false (by omega)
          have hsc := hQ.out.sc
          rw [List.drop_of_length_le (by rw [HPLL.out]; exact Nat.le_refl _)] at hsc
          have hae : a = scanL PL [] := hsc
          have hfin : RJ wr r ⟨G, .slice sn a.length cn, vb, .slice st a.length ct⟩ (found (parts0 d)) := by
            rw [HFD.out, ← hae]
            have hql := hQ.out.al
            exact ⟨hQ.out.head, hQ.out.rn, hQ.out.rb, hQ.out.rt, fun y hy => by have := HLT.out y hy; have := HG.out; dsimp only; omega, hQ.out.nb, hGN.2.1, ⟨hnx1, hGN.1⟩, by dsimp only; omega, hGN.2.2⟩
          have HFN := Lib.hid hfin; clear hfin hae hsc
          go_wp2
          go_ret2
          exact ⟨_, rfl, HFN.out, Nat.le_of_eq HG.out.symm, by have := hQ.out.low; rw [HG.out] at this; exact this⟩
end Go.Proofs.YtbmnbdkbgpajeaaGreatDoor
end
