/- Flush of the program's disk. -/
import Derived.Test.YtbmnbdkbgpajeaaGreatDoorFR16
import Derived.Test.YtbmnbdkbgpajeaaGreatDoorFR03
import Derived.Test.YtbmnbdkbgpajeaaGreatDoorFR13
import Derived.Test.YtbmnbdkbgpajeaaGreatDoorFR04
import Derived.Deep.AppendLies
import Derived.Deep.DeepAppendRoom
import Derived.Laws.AppendOwnNone
/- Flush of the program's disk. -/
section
namespace Go.Disk
open Go.RowKit Go.Own
/-- Behind k rounds over the list L of pending sectors. -/
structure LoopI (ps : List Int) (L : List Nat) (s0 : List Sec) (k : Nat) (s : List Sec) : Prop where
  fin : settleTo (ps.drop k) (L.drop k) s = settleTo ps L s0
  dirty : ∀ j ∈ L.drop k, j < s.length ∧ (s.getD j default).p.isSome = true
theorem LoopI.start (ps : List Int) (s0 : List Sec) : LoopI ps (apend s0) s0 0 s0 := by
  refine ⟨rfl, fun j hj => ?_⟩
  obtain ⟨h1, h2⟩ := List.mem_filter.1 hj
  exact ⟨List.mem_range.1 h1, h2⟩
theorem LoopI.step {ps : List Int} {L : List Nat} {s0 s : List Sec} {k : Nat} (hL : L.Pairwise (· < ·)) (hk : k < L.length) (h : LoopI ps L s0 k s) :
    LoopI ps L s0 (k + 1) (s.modify (L.getD k 0) (settle1 (ps.getD k 64))) := by
  have e : L.drop k = L.getD k 0 :: L.drop (k + 1) := by
    rw [List.drop_eq_getElem_cons hk]; simp [hk]
  obtain ⟨h1, h2⟩ := h
  rw [e] at h1 h2
  refine ⟨?_, fun j hj => ?_⟩
  · rw [← h1]
    simp only [settleTo, List.tail_drop]
    congr 3
    simp [List.headD_eq_head?_getD, List.head?_drop]
  · obtain ⟨h3, h4⟩ := h2 j (List.mem_cons_of_mem _ hj)
    have hlt : L.getD k 0 < j := by
      have hp := (hL.drop (i := k))
      rw [e, List.pairwise_cons] at hp
      exact hp.1 j hj
    refine ⟨by simpa using h3, ?_⟩
    have hne : ¬ L.getD k 0 = j := by omega
    rw [List.getD_eq_getElem?_getD, List.getElem?_modify]
    simp only [hne, if_false, id_map']
    rw [List.getD_eq_getElem?_getD] at h4
    exact h4
theorem LoopI.here {ps : List Int} {L : List Nat} {s0 s : List Sec} {k : Nat} (hk : k < L.length) (h : LoopI ps L s0 k s) : L.getD k 0 < s.length ∧ (s.getD (L.getD k 0) default).p.isSome = true := by
  have e : L.drop k = L.getD k 0 :: L.drop (k + 1) := by
    rw [List.drop_eq_getElem_cons hk]; simp [hk]
  exact h.dirty _ (by rw [e]; exact List.mem_cons_self)
theorem LoopI.last {ps : List Int} {L : List Nat} {s0 s : List Sec} (h : LoopI ps L s0 L.length s) : s = settleTo ps L s0 := by
  have := h.fin
  rw [List.drop_of_length_le (Nat.le_refl _)] at this
  rw [← this]; rfl
end Go.Disk
namespace Go.Proofs.YtbmnbdkbgpajeaaGreatDoor
open Go.RowKit Go.Own Go.Disk
attribute [local go_sem] setCell_twice str_size
theorem sl_cell {w : World} {n : Nat} {v : Value} {vs : List Value} (h : Sl w 1 v n vs) (hn : 0 < n) : ∃ b off cap, v = .slice (some ⟨b, off, none⟩) n cap ∧ Cells w b off vs ∧ v.ownBlock = some b := by
  obtain ⟨_, ⟨_, h0⟩ | ⟨b, off, cap, rfl, _, _, hC, _⟩⟩ := h
  · omega
  · exact ⟨b, off, cap, rfl, hC, rfl⟩
theorem inR_nat {d : DS} {j : Nat} (h : j < d.s.length) : inR d j = true := by simp [inR, h]
set_option maxHeartbeats 1600000 in
set_option maxRecDepth 100000 in
theorem flush_any (f : Ft) (d : DS) (w : World) (h : PD w f d) : Calls Tryz.prog 82 #[.pointer (some ⟨f.p, 0, none⟩)] w fun e w' => e = .returned (.int .i64 (aflush d).1) ∧ PD w' f (aflush d).2 ∧ Chg f.all w w' := by
  have hpos := h.ok.pos
  have h0R : inR d 0 = true := by simp [inR]; omega
  go_enter Tryz.func82, Tryz.ntmps82
  by_cases hoff : d.off = true
  · have hc : acheck d 0 = 25 := by simp [acheck, hoff]
    have hk : aflush d = (25, d) := by simp [aflush, hoff]
    go_wp2_with (go_at_call 43; refine (check_any f d 0 w h).mono ?_; rintro e w' ⟨rfl, rfl⟩; rw [hc])
    go_ret
    rw [hk]
    exact ⟨rfl, h, Chg.refl _ _⟩
  · have hoff' : d.off = false := by simpa using hoff
    have hc : acheck d 0 = 0 := by simp [acheck, hoff', h0R]
    by_cases hs : (astep d).1 = 0
    · have hk : aflush d = (0, { (astep d).2 with s := settleTo [] (apend d.s) d.s }) := by simp [aflush, hoff', hs]
      obtain ⟨d1, hd1⟩ : ∃ d1, d1 = (astep d).2 := ⟨_, rfl⟩
      have hs1 : d1.s = d.s := by rw [hd1, astep_s]
      rw [← hd1, ← hs1] at hk
      have HK := Lib.hid hk; clear hk
      have HS1 := Lib.hid hs1; clear hs1
      have HD1 := Lib.hid hd1; clear hd1
      go_wp2_with (first | (go_at_call 43; refine (check_any f d 0 w h).mono ?_; rintro e w' ⟨rfl, rfl⟩; rw [hc]) | (go_at_call 44; refine (step_any f d _ h).mono ?_; rintro e w1 ⟨rfl, h1, hc1⟩; rw [hs]; rw [← HD1.out] at h1) | (go_at_call 64; refine (pending_any f d1 _ h1).mono ?_; rintro e w2 ⟨v, rfl, hrow, hb2⟩; obtain ⟨sa, cap, rfl, hge⟩ := own_slice hrow))
      obtain ⟨L, hL⟩ : ∃ L, L = apend d1.s := ⟨_, rfl⟩
      have hLs : L.Pairwise (· < ·) := by rw [hL]; exact range_filter_lt _ _
      have hI0 := LoopI.start [] d1.s
      have hLl : L.length ≤ 4096 := by
        have e2 := List.length_filter_le (fun i => (d1.s.getD i default).p.isSome) (List.range d1.s.length)
        rw [List.length_range] at e2
        have := h1.ok.most
        rw [hL]; unfold apend; omega
      have hsl := Sl.of_owns hrow
      have hF : ∀ x ∈ f.all, x < w1.heap.size := h1.lt
      have h2 := h1.below hb2
      rw [← hL] at hI0 hsl hge HK
      try rw [← hL]
      have HL := Lib.hid hL; clear hL
      clear hrow
      have hC2 : Chg f.all _ w2 := (hc1.mono (by simp [Ft.all])).trans (.of_below hb2)
      go_loopw [20] (fun c wr => ∃ k : Nat, ∃ s : List Sec, k ≤ L.length ∧ c = .int .i64 k ∧ LoopI [] L d1.s k s ∧ PD wr f { d1 with s := s } ∧ s.length = d1.s.length ∧ Chg f.all w2 wr) (fun c _ => L.length - (intOf c).toNat)
      case atStart => exact ⟨0, d1.s, by omega, rfl, hI0, h2, rfl, Chg.refl _ _⟩
      case round =>
        obtain ⟨k, s, hk, rfl, hI, hP, hsl', hC⟩ := hrel
        by_cases hkl : k < L.length
        · obtain ⟨hj1, hj2⟩ := hI.here hkl
          have hS := hsl.chg hC (fun b hb hx => by have := hge b hb; have := hF b hx; omega)
          obtain ⟨b0, off, cap', e0, hCs, _⟩ := sl_cell hS (by omega)
          injection e0 with e0 _ e1
          subst e0 e1
          have cx : wr.cell? ⟨b0, off + k, none⟩ = some (.int .i64 (L.getD k 0)) := hCs k _ (by rw [List.getElem?_map, List.getElem?_eq_getElem hkl, List.getD_eq_getElem?_getD, List.getElem?_eq_getElem hkl]; rfl)
          have HI := Lib.hid hI; clear hI
          have HSL := Lib.hid hsl; clear hsl
          obtain ⟨j, hj⟩ : ∃ j, j = L.getD k 0 := ⟨_, rfl⟩
          have hI' := HI.out.step hLs hkl
          rw [← hj] at cx hj1 hj2 hI'
          have HI' := Lib.hid hI'; clear hI'
          have HJ := Lib.hid hj; clear hj
          have hjR : inR { d1 with s := s } j = true := inR_nat hj1
          go_wp2_with (go_at_call 65; refine (settle_any f { d1 with s := s } j 64 _ hP hjR hj2).mono ?_; rintro e w3 ⟨rfl, hP', hC'⟩)
          go_roundw
          case rel =>
            have hm : ({ d1 with s := s } : DS).s.modify ((j : Int).toNat) (settle1 64) = s.modify j (settle1 64) := rfl
            exact ⟨k + 1, s.modify j (settle1 64), by omega, by go_num, HI'.out, hP', by simp [hsl'], hC.trans hC'⟩
          case measure => simp [intOf]; omega
        · obtain rfl : k = L.length := by omega
          have hfin := hI.last
          go_wp2
          go_ret
          rw [HK.out]
          subst hfin
          exact ⟨rfl, hP, hC2.trans hC⟩
    · have hk : aflush d = astep d := by simp [aflush, hoff', hs]
      have hs' : ((astep d).1 == 0) = false := by simpa using hs
      go_wp2_with (first | (go_at_call 43; refine (check_any f d 0 w h).mono ?_; rintro e w' ⟨rfl, rfl⟩; rw [hc]) | (go_at_call 44; refine (step_any f d _ h).mono ?_; rintro e w1 ⟨rfl, h1, hc1⟩))
      go_ret
      rw [hk]
      exact ⟨rfl, h1, hc1.mono (by simp [Ft.all])⟩
end Go.Proofs.YtbmnbdkbgpajeaaGreatDoor
end
/- A region that draws its order, its operations told in another order of the text. -/
section
namespace Go.Own.SqP
open Go.RowKit Go.Own
section
variable {P : Program} {l : List Oper} {ps : List Nat} {Ext : World → World → Prop} {w0 : World} {Post : Nat → Value → World → Prop}
/-- A region that draws its order: the head, n operations, is walked in the order of the text, each operation in some world that grew out of the first one; then the tail. -/
theorem any_sq {Q : Exit → Act → World → Prop} {a : Act} {w : World} (n : Nat) (ps : List Nat) (Ext : World → World → Prop) (Post : Nat → Value → World → Prop) (hB : sqB l n a.tmps.size ps = true)
    (hrefl : ∀ w, Ext w w) (htrans : ∀ a b c, Ext a b → Ext b c → Ext a c) (stable : ∀ i v w w', Post i v w → Ext w w' → Post i v w')
    (h : SqW P l ps Ext w.drew Post (fun a' => ∀ w', Ext w.drew w' → (∀ j d, j < n → ps.contains j = true → (l[j]?).bind (·.dst) = some d → (∀ o', l[j]? = some o' → Region.wanted o' (yielded l.toArray a'.tmps) = true) → Post j (a'.tmps.getD d undef) w') →
      wpList P l.toArray Q (l.drop n) a' w') 0 (l.take n) a) : wpAny P .any l.toArray Q l.toArray.size (Array.replicate l.toArray.size false) a w.drew := by
  simp only [sqB, Bool.and_eq_true, Bool.or_eq_true, decide_eq_true_eq, beq_iff_eq] at hB
  obtain ⟨⟨⟨⟨⟨hsel, he⟩, hd⟩, hl⟩, _⟩, hq⟩ := hB
  have F := sqF_of hsel he hd hl
  have hn : n ≤ l.length := by rcases hq with h | h <;> omega
  have hq' : n = l.length ∨ (Region.sinkB .any l.toArray n = true ∧ Region.chainB .any l.toArray n = true ∧ n < l.length) := hq.imp (fun h => h) fun h => ⟨h.1.1.1, h.1.1.2, h.1.2⟩
  have hseq : Region.seqB .any l.toArray (l.length - n) n ((List.replicate n true ++ List.replicate (l.length - n) false).toArray) = true := by
    rcases hq with h | h
    · subst h
      rw [Nat.sub_self]
      simp only [Region.seqB, List.isEmpty_iff, List.replicate_zero, List.append_nil]
      unfold Region.ready
      rw [List.filter_eq_nil_iff]
      intro i hi
      have hi' : i < l.length := by simpa using hi
      simp [hi']
    · exact h.2
  have inv0 : HeadInv .any l.toArray n (Array.replicate l.toArray.size false) :=
    ⟨by simp, fun j oj _ hl => (by rw [getD_replicate_false] at hl; cases hl), fun t _ h' => getD_in (by simpa using h') (getD_replicate_false _ _)⟩
  have hno : ∀ j, ¬ (j < n ∧ (Array.replicate l.toArray.size false).getD j false = true) := fun j hj => by have := hj.2; rw [getD_replicate_false] at this; cases this
  have H := sq_any (Q := Q) (g := l.length - n) F hrefl htrans stable rfl h hn he hq' (fun listed a1 w1 val hsz h1 h2 I fr => ?_) n (Array.replicate l.toArray.size false) a w.drew (fun _ => undef) inv0
    ⟨hrefl _, fun j hj => absurd hj (hno j), fun m o hm => absurd hm (hno m), fun u _ j hj => absurd hj (hno j), fun u _ j hj => absurd hj (hno j)⟩
    ⟨rfl, rfl, fun _ _ => rfl, fun j o d hj => absurd hj (hno j)⟩ (by simp; omega)
  · rw [show n + (l.length - n) = l.toArray.size by simp; omega] at H
    exact H
  · have hlisted : listed = (List.replicate n true ++ List.replicate (l.length - n) false).toArray := by
      apply Array.ext
      · simp [hsz]; omega
      · intro i hi1 hi2
        by_cases hin : i < n
        · have := h1 i hin
          simp only [Array.getD_eq_getD_getElem?, Array.getElem?_eq_getElem hi1, Option.getD_some] at this
          rw [this]
          simp [hin]
        · have := h2 i (by omega) (by omega)
          simp only [Array.getD_eq_getD_getElem?, Array.getElem?_eq_getElem hi1, Option.getD_some] at this
          rw [this]
          simp [List.getElem_append, hin]
    have hfin := sqw_along hrefl (u := val) h hn n (Nat.le_refl _) fun j hj => I.cons val (fun _ _ => rfl) j hj
    have hnil : (l.take n).drop n = [] := List.drop_of_length_le (by simp; omega)
    rw [hnil] at hfin
    unfold SqW at hfin
    have ha1 : a1 = putAll l a val n := by
      have ht : a1.tmps = (putAll l a val n).tmps := by
        refine getD_ext (by rw [putAll_size, fr.size]) fun t ht => ?_
        by_cases hx : ∃ i o, i < n ∧ l[i]? = some o ∧ o.dst = some t
        · obtain ⟨i, o, hi, ho, hot⟩ := hx
          rw [slot_at F rfl val (Nat.le_refl _) hi ho hot, fr.slot i o t hi ho hot]
        · have hno : ∀ i o, i < n → l[i]? = some o → o.dst ≠ some t := fun i o hi ho hot => hx ⟨i, o, hi, ho, hot⟩
          rw [slot_other val hno]
          exact fr.other t hno
      have hdf : a1.defers = (putAll l a val n).defers := by rw [putAll_defers, fr.defers]
      cases a1
      cases hp : putAll l a val n
      rw [hp] at ht hdf
      simp only at ht hdf
      rw [ht, hdf]
    have hw := hfin w1 I.ext fun j d hj hp hdj hwj => by
      obtain ⟨oj, hoj, hdj'⟩ := Option.bind_eq_some_iff.1 hdj
      rw [slot_at F rfl val (Nat.le_refl _) hj hoj hdj']
      refine I.post val (fun _ _ => rfl) j hj hp fun o' ho' => ?_
      rw [← hwj o' ho']
      refine wanted_same (by rw [putAll_size, putAll_size]) ?_
      exact agree_walk F rfl (u := val) (u' := val) hj (Nat.le_refl _) (Nat.le_of_lt hj) (Nat.le_of_lt hj) (Nat.le_refl _) ho' fun _ _ => rfl
    rw [← ha1] at hw
    have := wpAny_of_seq (md := .any) (Q' := Q) (l.drop n) n listed a1 w1 (fun j => by simp [List.getElem?_drop]) (by rw [List.length_drop, hlisted]; exact hseq) hw
    rwa [List.length_drop] at this
end
/-- An operation told with other numbers for what it waits for. -/
def ren (iv : Nat → Nat) (o : Oper) : Oper := { o with after := o.after.map fun e => { e with on := iv e.on } }
def permL (l : List Oper) (s : List Nat) (iv : Nat → Nat) : List Oper := s.map fun j => ren iv (l.getD j default)
/-- s tells each operation once, iv turns it back; no operation is guarded; all wait for earlier ones. -/
def permB (l : List Oper) (s : List Nat) (iv : Nat → Nat) : Bool :=
  decide (s.length = l.length) && ((List.range l.length).all fun i => decide (s.getD i 0 < l.length) && decide (iv (s.getD i 0) = i) && decide (iv i < l.length) && decide (s.getD (iv i) 0 = i)) &&
  (l.all fun o => o.guard.isNone && o.after.all fun e => decide (e.on < l.length))
structure Perm (l : List Oper) (s : List Nat) (iv : Nat → Nat) : Prop where
  len : s.length = l.length
  lt : ∀ i, i < l.length → s.getD i 0 < l.length
  back : ∀ i, i < l.length → iv (s.getD i 0) = i
  ivlt : ∀ i, i < l.length → iv i < l.length
  forth : ∀ i, i < l.length → s.getD (iv i) 0 = i
  noguard : ∀ o ∈ l, o.guard = none
  on : ∀ o ∈ l, ∀ e ∈ o.after, e.on < l.length
theorem perm_of {l : List Oper} {s : List Nat} {iv : Nat → Nat} (h : permB l s iv = true) : Perm l s iv := by
  simp only [permB, Bool.and_eq_true, decide_eq_true_eq, List.all_eq_true, List.mem_range, Array.all_eq_true, Option.isNone_iff_eq_none] at h
  obtain ⟨⟨h1, h2⟩, h3⟩ := h
  refine ⟨h1, fun i hi => (h2 i hi).1.1.1, fun i hi => (h2 i hi).1.1.2, fun i hi => (h2 i hi).1.2, fun i hi => (h2 i hi).2, fun o ho => (h3 o ho).1, fun o ho e he => ?_⟩
  obtain ⟨k, hk, rfl⟩ := Array.getElem_of_mem he
  exact (h3 o ho).2 k hk
section
variable {P : Program} {l : List Oper} {s : List Nat} {iv : Nat → Nat}
theorem permL_len (h : Perm l s iv) : (permL l s iv).length = l.length := by unfold permL; rw [List.length_map, h.len]
theorem permL_at (h : Perm l s iv) {i : Nat} (hi : i < l.length) : (permL l s iv)[i]? = some (ren iv (l[s.getD i 0]'(h.lt i hi))) := by
  unfold permL
  have hs : i < s.length := by rw [h.len]; exact hi
  have hlt := h.lt i hi
  have e1 : s.getD i 0 = s[i] := by rw [List.getD_eq_getElem?_getD, List.getElem?_eq_getElem hs]; rfl
  rw [List.getElem?_map, List.getElem?_eq_getElem hs, Option.map_some]
  congr 2
  rw [List.getD_eq_getElem?_getD, List.getElem?_eq_getElem (by rw [← e1]; exact hlt), Option.getD_some]
  congr 1
  exact e1.symm
/-- Which operations are listed, in both tellings. -/
structure Same (l : List Oper) (s : List Nat) (A B : Array Bool) : Prop where
  sa : A.size = l.length
  sb : B.size = l.length
  eq : ∀ i, i < l.length → B.getD i false = A.getD (s.getD i 0) false
theorem getD_tf {A : Array Bool} {i : Nat} (h : i < A.size) : A.getD i true = A.getD i false := by
  rw [Array.getD_eq_getD_getElem?, Array.getD_eq_getD_getElem?, Array.getElem?_eq_getElem h]; rfl
theorem ready_iff (hp : Perm l s iv) {A B : Array Bool} (h : Same l s A B) (j : Nat) : j ∈ Region.ready .any l.toArray A ↔ (j < l.length ∧ iv j ∈ Region.ready .any (permL l s iv).toArray B) := by
  unfold Region.ready
  simp only [List.mem_filter, List.mem_range, List.size_toArray, permL_len hp]
  constructor
  · rintro ⟨hj, h1⟩
    refine ⟨hj, hp.ivlt j hj, ?_⟩
    have e : (permL l s iv)[iv j]? = some (ren iv l[j]) := by
      rw [permL_at hp (hp.ivlt j hj)]
      congr 2
      congr 1
      exact hp.forth j hj
    simp only [List.getElem?_toArray, e, List.getElem?_eq_getElem hj, Option.map_some, Option.getD_some, Bool.and_eq_true, Bool.not_eq_true', Array.all_eq_true] at h1 ⊢
    refine ⟨?_, ?_⟩
    · have := h.eq (iv j) (hp.ivlt j hj)
      rw [hp.forth j hj] at this
      rw [getD_tf (by rw [h.sb]; exact hp.ivlt j hj), this, ← getD_tf (by rw [h.sa]; exact hj)]
      exact h1.1
    · intro k hk
      have hk' : k < l[j].after.size := by simpa [ren] using hk
      have h2 := h1.2 k hk'
      have hon := hp.on _ (List.getElem_mem hj) _ (Array.getElem_mem hk')
      have := h.eq (iv l[j].after[k].on) (hp.ivlt _ hon)
      rw [hp.forth _ hon] at this
      simp only [ren, Array.getElem_map]
      rw [this]
      exact h2
  · rintro ⟨hj, _, h1⟩
    refine ⟨hj, ?_⟩
    have e : (permL l s iv)[iv j]? = some (ren iv l[j]) := by
      rw [permL_at hp (hp.ivlt j hj)]
      congr 2
      congr 1
      exact hp.forth j hj
    simp only [List.getElem?_toArray, e, List.getElem?_eq_getElem hj, Option.map_some, Option.getD_some, Bool.and_eq_true, Bool.not_eq_true', Array.all_eq_true] at h1 ⊢
    refine ⟨?_, ?_⟩
    · have := h.eq (iv j) (hp.ivlt j hj)
      rw [hp.forth j hj] at this
      rw [getD_tf (by rw [h.sa]; exact hj), ← this, ← getD_tf (by rw [h.sb]; exact hp.ivlt j hj)]
      exact h1.1
    · intro k hk
      have h2 := h1.2 k (by simpa [ren] using hk)
      have hon := hp.on _ (List.getElem_mem hj) _ (Array.getElem_mem hk)
      have := h.eq (iv l[j].after[k].on) (hp.ivlt _ hon)
      rw [hp.forth _ hon] at this
      simp only [ren, Array.getElem_map] at h2
      rw [this] at h2
      exact h2
theorem ren_wp (o : Oper) (a : Act) (w : World) (K : Act → World → Prop) (Q : Exit → Act → World → Prop) : (ren iv o).wp P a w K Q = o.wp P a w K Q := rfl
theorem perm_any (hp : Perm l s iv) {Q : Exit → Act → World → Prop} : ∀ (f : Nat) (A B : Array Bool) (a : Act) (w : World), Same l s A B → wpAny P .any (permL l s iv).toArray Q f B a w → wpAny P .any l.toArray Q f A a w
  | 0, A, B, a, w, h, hw => by
    refine ⟨?_, hw.2⟩
    rw [List.eq_nil_iff_forall_not_mem]
    intro j hj
    have := ((ready_iff hp h j).1 hj).2
    rw [hw.1] at this
    cases this
  | f + 1, A, B, a, w, h, hw => by
    refine ⟨fun he => hw.1 ?_, fun j hj => ?_⟩
    · rw [List.eq_nil_iff_forall_not_mem]
      intro i hi
      have hil : i < l.length := by
        have := hi
        unfold Region.ready at this
        simp only [List.mem_filter, List.mem_range, List.size_toArray, permL_len hp] at this
        exact this.1
      have : s.getD i 0 ∈ Region.ready .any l.toArray A := (ready_iff hp h _).2 ⟨hp.lt i hil, by rw [hp.back i hil]; exact hi⟩
      rw [he] at this
      cases this
    · obtain ⟨hjl, hi⟩ := (ready_iff hp h j).1 hj
      have h2 := hw.2 _ hi
      have e : (permL l s iv)[iv j]? = some (ren iv l[j]) := by
        rw [permL_at hp (hp.ivlt j hjl)]
        congr 2
        congr 1
        exact hp.forth j hjl
      have hg := hp.noguard _ (List.getElem_mem hjl)
      unfold wpOp at h2 ⊢
      simp only [List.getElem?_toArray, e, List.getElem?_eq_getElem hjl] at h2 ⊢
      have w1 : ∀ y, Region.wanted (ren iv l[j]) y = true := fun y => by unfold Region.wanted ren; simp only [hg]
      have w2 : ∀ y, Region.wanted l[j] y = true := fun y => by unfold Region.wanted; simp only [hg]
      rw [if_pos (w1 _)] at h2
      rw [if_pos (w2 _)]
      have hs : Same l s (A.setIfInBounds j true) (B.setIfInBounds (iv j) true) := by
        refine ⟨by simpa using h.sa, by simpa using h.sb, fun i hil => ?_⟩
        by_cases hij : i = iv j
        · subst hij
          rw [hp.forth j hjl]
          simp [Array.getD_eq_getD_getElem?, h.sa, h.sb, hjl, hil]
        · have hne : s.getD i 0 ≠ j := fun he => hij (by rw [← he, hp.back i hil])
          have := h.eq i hil
          rw [Array.getD_eq_getD_getElem?, Array.getD_eq_getD_getElem?] at this ⊢
          rw [Array.getElem?_setIfInBounds_ne (fun he => hij he.symm), Array.getElem?_setIfInBounds_ne (fun he => hne he.symm)]
          exact this
      rcases h2 with h2 | h2
      · rw [ren_wp] at h2
        exact .inl (Oper.wp_mono (fun a' w' hk => perm_any hp f _ _ a' w' hs hk) h2)
      · exact .inr h2
/-- A region that draws its order, told in another order: s lists the operations, iv turns s back. -/
theorem wp_region_sqP {id : Nat} {Q : Exit → Act → World → Prop} {a : Act} {w : World} (s : List Nat) (iv : Nat → Nat) (l' : List Oper) (hl' : permL l s iv = l') (n : Nat) (ps : List Nat) (Ext : World → World → Prop) (Post : Nat → Value → World → Prop) (hm : P.follows .mixedOrders = true)
    (hp : permB l s iv = true) (hB : sqB l' n a.tmps.size ps = true) (hrefl : ∀ w, Ext w w) (htrans : ∀ a b c, Ext a b → Ext b c → Ext a c) (stable : ∀ i v w w', Post i v w → Ext w w' → Post i v w')
    (h : SqW P l' ps Ext w.drew Post (fun a' => ∀ w', Ext w.drew w' → (∀ j d, j < n → ps.contains j = true → (l'[j]?).bind (·.dst) = some d → (∀ o', l'[j]? = some o' → Region.wanted o' (yielded l'.toArray a'.tmps) = true) → Post j (a'.tmps.getD d undef) w') →
      wpList P l'.toArray Q (l'.drop n) a' w') 0 (l'.take n) a) : (Code.region id l.toArray true).wp P Q a w := by
  have hP := perm_of hp
  refine wp_region_any hm ?_
  have h1 := any_sq n ps Ext Post hB hrefl htrans stable h
  subst hl'
  have hlen : (permL l s iv).toArray.size = l.toArray.size := by simp [permL_len hP]
  rw [hlen] at h1
  refine perm_any hP _ _ _ _ _ ⟨by simp, by simp, fun i hi => ?_⟩ h1
  rw [getD_replicate_false, getD_replicate_false]
end
end Go.Own.SqP
end
/- An append of one element in a region that draws its order: rows that agree with what is written stay. -/
section
namespace Go.Own
open Go.RowKit
/-- 'append(s, x...)', s a row of one's own: what is below stays, and rows that agree with what is written. -/
theorem run_append_rows {P : Program} (w : World) (base : Nat) (t ty e : TypeId) (i : TypeInfo) (z : Value) (size bytes : Nat) (ht : P.underlying t = some (.slice e)) (hi : P.info? e = some i) (hz : i.zero = some z)
    (hsize : i.size = size) (hby : i.bytes = bytes) (hzs : z.cells.size = size) (hsz : 0 < size)
    (v : Value) (n : Nat) (xs : List Value) (hown : w.ownsRow base e size v n xs) (hv : v ≠ .slice none 0 0)
    (a : Addr) (m c : Nat) (news : List Value) (hl : news.length = m * size) (hnews : ∀ j u, news[j]? = some u → w.cell? (a.add j) = some u) (h1 : ∀ u ∈ news, u.oneCell' = true)
    (h63 : n + m ≤ maxLen) (hbytes : (n + m) * bytes ≤ 140737488355328) (hbase : base ≤ w.heap.size) :
    ∃ v' w', (Builtin.append_ #[t, t] ty #[v, .slice (some a) m c]).run P w = .ok v' w' ∧ w'.ownsRow base e size v' (n + m) (xs ++ news) ∧ Below base w w' ∧
      (∀ e2 size2 v2 k Y, w.ownsRow base e2 size2 v2 k Y → (e2 = e → ∀ sa cap, v = .slice sa n cap → n + m ≤ cap → ∀ j u, n * size ≤ j → j < (n + m) * size → Y[j]? = some u → news[j - n * size]? = some u) → w'.ownsRow base e2 size2 v2 k Y) := by
  obtain ⟨v', w', hr, h2, h3, _⟩ := run_append_own w base t ty e i z size bytes ht hi hz hsize hby hzs hsz v n xs hown a m c news hl hnews h1 h63 hbytes hbase
  have hlow : Below base w w' := grown_below (Below.refl base w) hown h3 hbase
  refine ⟨v', w', hr, h2, hlow, fun e2 size2 v2 k Y hY hag => ?_⟩
  rcases hown.2 with ⟨rfl, rfl⟩ | ⟨g, cap, cur, rfl, hbg, hg, hnc, hcm, hcs, htake⟩
  · exact absurd rfl hv
  · by_cases hroom : n + m ≤ cap
    · subst hsize
      have hfit : n * i.size + news.length ≤ cur.size := by rw [hl, hcs, ← Nat.add_mul]; exact Nat.mul_le_mul_right _ hroom
      have hr2 := run_append_room (P := P) w t ty e i ht hi g n cap cur hg a m c news hl hnews h1 hroom hfit
      rw [hr] at hr2
      injection hr2 with e1 e2'
      subst e2'
      rcases hY.2 with hn | ⟨g2, cap2, cur2, rfl, hb2, hg2, hk2, hm2, hs2, ht2⟩
      · exact ⟨hY.1, .inl hn⟩
      · by_cases hgg : g2 = g
        · subst hgg
          rw [hg] at hg2
          injection hg2 with hg2
          injection hg2 with c1 c2 c3
          subst c1 c2
          refine ⟨hY.1, .inr ⟨g2, cap2, _, rfl, hb2, setRow_heap w g2 cur _ e _ hg, hk2, hm2, ?_, ?_⟩⟩
          · rw [← hs2]
            simp only [List.size_toArray, List.length_append, List.length_take, List.length_drop, Array.length_toList]
            omega
          · have hYl := hY.1
            rw [List.toList_toArray]
            apply List.ext_getElem?
            intro j
            by_cases hj : j < k * size2
            · rw [List.getElem?_take_of_lt hj]
              have hcj : cur.toList[j]? = Y[j]? := by rw [← ht2, List.getElem?_take_of_lt hj]
              have hjc : j < cur.toList.length := by
                rw [Array.length_toList, hs2]
                exact Nat.lt_of_lt_of_le hj (Nat.mul_le_mul_right _ hk2)
              have htl : (cur.toList.take (n * i.size)).length = n * i.size := by
                rw [List.length_take, Array.length_toList]; omega
              by_cases h5 : j < n * i.size
              · rw [List.append_assoc, List.getElem?_append_left (by rw [htl]; exact h5), List.getElem?_take_of_lt h5, hcj]
              · by_cases h6 : j < (n + m) * i.size
                · have h7 : j - n * i.size < news.length := by rw [hl]; rw [Nat.add_mul] at h6; omega
                  rw [List.append_assoc, List.getElem?_append_right (by rw [htl]; omega), htl, List.getElem?_append_left h7]
                  have hYj : j < Y.length := by rw [hYl]; exact hj
                  have h8 := hag rfl _ cap rfl hroom j Y[j] (by omega) h6 (List.getElem?_eq_getElem hYj)
                  rw [h8, List.getElem?_eq_getElem hYj]
                · rw [Nat.add_mul] at h6
                  rw [List.getElem?_append_right (by rw [List.length_append, htl, hl]; omega), List.length_append, htl, List.getElem?_drop, hl, ← hcj]
                  congr 1
                  omega
            · rw [List.getElem?_eq_none (by rw [List.length_take]; omega), List.getElem?_eq_none (by rw [hYl]; omega)]
        · refine ⟨hY.1, .inr ⟨g2, cap2, cur2, rfl, hb2, ?_, hk2, hm2, hs2, ht2⟩⟩
          rw [setRow_other w g g2 _ hgg]; exact hg2
    · have hb : Below w.heap.size w w' := by
        subst hsize
        subst hby
        have hsmall : n + m ≤ 9223372036854775807 := by simp only [maxLen] at h63; omega
        have holds : ∀ j u, xs[j]? = some u → w.cell? ((⟨g, 0, none⟩ : Addr).add j) = some u := hown.cells (g := g) rfl
        have hr2 := run_append_grow (P := P) w t ty e i z ht hi hz ⟨g, 0, none⟩ n cap xs hown.1 holds a m c news hl hnews (by omega) (by omega) (growslice_fits (by omega) hbytes)
        rw [hr] at hr2
        injection hr2 with e1 e2'
        subst e2'
        exact ((Below.refl w.heap.size w).drew).alloc (Nat.le_refl _) _
      exact own_below hY hb
/-- Blocks but some stay, and rows of some kinds. -/
structure ExtA (F : List Nat) (B : Nat) (good : TypeId → Nat → Nat → List Value → Prop) (W W' : World) : Prop where
  chg : Chg F W W'
  rows : ∀ e size v k Y, good e size k Y → W.ownsRow B e size v k Y → W'.ownsRow B e size v k Y
theorem ExtA.refl (F : List Nat) (B : Nat) (good : TypeId → Nat → Nat → List Value → Prop) (W : World) : ExtA F B good W W := ⟨Chg.refl _ _, fun _ _ _ _ _ _ h => h⟩
theorem ExtA.trans (F : List Nat) (B : Nat) (good : TypeId → Nat → Nat → List Value → Prop) (a b c : World) (h : ExtA F B good a b) (k : ExtA F B good b c) : ExtA F B good a c := ⟨h.chg.trans k.chg, fun e s v n Y g r => k.rows e s v n Y g (h.rows e s v n Y g r)⟩
theorem ExtA.of {F : List Nat} {B : Nat} {good : TypeId → Nat → Nat → List Value → Prop} {a b : World} (h : Below a.heap.size a b) : ExtA F B good a b := ⟨Chg.of_below h, fun _ _ _ _ _ _ r => own_below r h⟩
/-- 'append(s, x)' in a region that draws its order. -/
theorem yields_append1 {P : Program} {o : Oper} {ρ : Operand → Value} {W : World} {R : Value → World → Prop} {F : List Nat} {good : TypeId → Nat → Nat → List Value → Prop} (s x : Operand) (t : TypeId)
    (ho : o.op = .call { callee := .builtin .append, args := #[s, x], argTypes := #[t, t] })
    (B : Nat) (e : TypeId) (z : Value) (bytes : Nat) (ht : P.underlying t = some (.slice e)) (hi : (P.info? e).map (fun i => (i.zero, i.size, i.bytes)) = some (some z, 1, bytes)) (hzs : z.cells.size = 1)
    (v : Value) (n : Nat) (xs : List Value) (hs : ρ s = v) (hown : W.ownsRow B e 1 v n xs) (b c : Nat) (u : Value) (hx : ρ x = .slice (some ⟨b, 0, none⟩) 1 c) (hu : W.cell? ⟨b, 0, none⟩ = some u) (h1 : u.oneCell' = true)
    (h63 : n + 1 ≤ maxLen) (hbytes : (n + 1) * bytes ≤ 140737488355328) (hbase : B ≤ W.heap.size) (hF : ∀ k, v.ownBlock = some k → k ∈ F)
    (hag : ∀ k Y, good e 1 k Y → ∀ y, Y[n]? = some y → y = u) (hsz : ∀ size k Y, good e size k Y → size = 1)
    (h : ∀ g cap W', W'.ownsRow B e 1 (.slice (some ⟨g, 0, none⟩) (n + 1) cap) (n + 1) (xs ++ [u]) → (v.ownBlock = some g ∨ W.heap.size ≤ g) → ExtA F B good W W' → R (.slice (some ⟨g, 0, none⟩) (n + 1) cap) W') : Yields P o ρ W R := by
  obtain ⟨i, hi1, hi2, hi3, hi4⟩ := info_parts hi
  have hnews : ∀ j w, [u][j]? = some w → W.cell? ((⟨b, 0, none⟩ : Addr).add j) = some w := fun j w hj => by
    cases j with
    | zero => simp at hj; subst hj; rw [Addr.add_lit]; exact hu
    | succ j => simp at hj
  have hone : ∀ w ∈ [u], w.oneCell' = true := fun w hw => by simp at hw; subst hw; exact h1
  obtain ⟨g, cap, W', hr, h2, h3, h4, _⟩ := run_append_lies (P := P) W t o.type B e i z 1 bytes ht hi1 hi2 hi3 hi4 hzs (by decide) v n xs hown ⟨b, 0, none⟩ 1 c [u] (by simp) hnews hone (by decide) h63 hbytes hbase _ rfl
  have hex : (execOp ρ o).run P W = .ok (.value (.slice (some ⟨g, 0, none⟩) (n + 1) cap)) W' := by
    unfold execOp
    simp only [ho, resolve, invoke, builtin, Sem.run_bind, Sem.run_pure, Result.andThen_ok, List.map_toArray, List.map_cons, List.map_nil, hs, hx, hr]
  have hchg : Chg F W W' := ⟨h3.os, h3.tape, h3.output, h3.size, fun k hk hn => h3.block k hk (fun e => hn (hF k e.symm))⟩
  refine yields_value hex (h g cap W' h2 (h4.imp (fun h => h) fun h => by rw [h]; exact Nat.le_refl _) ⟨hchg, fun e2 s2 v2 k Y hg hY => ?_⟩)
  by_cases hv : v = .slice none 0 0
  · subst hv
    refine own_below hY ⟨h3.os, h3.tape, h3.output, h3.size, fun k hk => h3.block k hk (fun e => by cases e)⟩
  · obtain ⟨v', w', hr', _, _, k3⟩ := run_append_rows W B t o.type e i z 1 bytes ht hi1 hi2 hi3 hi4 hzs (by decide) v n xs hown hv ⟨b, 0, none⟩ 1 c [u] (by simp) hnews hone h63 hbytes hbase
    rw [hr] at hr'
    injection hr' with e1 e2'
    subst e2'
    refine k3 e2 s2 v2 k Y hY fun he sa cp _ _ j y hj1 hj2 hyj => ?_
    subst he
    obtain rfl : j = n := by omega
    have := hag k Y (by have := hsz _ _ _ hg; subst this; exact hg) y hyj
    subst this
    simp
end Go.Own
end
/- journal: a journal in memory; the sectors are read, one by one. -/
section
namespace Go.Own
open Go.RowKit
theorem own_far {w w' : World} {base size n : Nat} {e : TypeId} {v : Value} {xs : List Value} {row : Option Nat} (h : w.ownsRow base e size v n xs) (hg : w.grownBy w' row) (hr : ∀ k, v.ownBlock = some k → row ≠ some k) : w'.ownsRow base e size v n xs := by
  refine ⟨h.1, ?_⟩
  rcases h.2 with hn | ⟨g, cap, cur, rfl, hb, hgg, rest⟩
  · exact .inl hn
  · exact .inr ⟨g, cap, cur, rfl, hb, (hg.block g (Array.getElem?_eq_some_iff.1 hgg).1 (fun e => hr g rfl e.symm)).trans hgg, rest⟩
end Go.Own
namespace Go.Jn
open Go.RowKit Go.Own Go.Disk
/-- the blocks of a journal -/
structure Jf where
  g : Nat
  vn : Value
  vb : Value
  vt : Value
def intsV (l : List Nat) : List Value := l.map fun n : Nat => .int .i64 n
def Jf.all (J : Jf) : List Nat := J.g :: (J.vn.ownBlock.toList ++ (J.vb.ownBlock.toList ++ J.vt.ownBlock.toList))
def parts0 (d : DS) : List (List UInt8) := d.s.map cont
theorem cont_len {d : DS} (h : Disk.Ok d) : ∀ s ∈ parts0 d, s.length = 64 := fun s hs => by
  obtain ⟨x, hx, rfl⟩ := List.mem_map.1 hs
  unfold cont
  cases e : x.p with
  | none => exact h.t x hx
  | some q => exact h.p x hx q e
theorem aread_at {d : DS} {i : Nat} (h0 : d.off = false) (hi : i < d.s.length) : aread d i = ((parts0 d).getD i [], 0) := by
  unfold aread
  rw [acheck_at h0 hi]
  simp only [ne_eq, not_true_eq_false, if_false]
  congr 1
  unfold parts0 sec cont
  rw [List.getD_eq_getElem?_getD, List.getD_eq_getElem?_getD, List.getElem?_map, Int.toNat_natCast, List.getElem?_eq_getElem hi]
  rfl
theorem unpack_b (s : List UInt8) : (Jn.unpack s).b.length ≤ 48 := by
  unfold Jn.unpack
  split
  · exact Nat.le_trans (List.length_take_le _ _) (Nat.min_le_right _ _)
  · simp [prt0]
theorem unpack_k (s : List UInt8) : (Jn.unpack s).k < 65536 := by
  unfold Jn.unpack
  split
  · exact Go.Proofs.YtbmnbdkbgpajeaaGreatDoor.num_lt2 _
  · simp [prt0]
theorem badK_le (l : List (List UInt8)) (i : Nat) : (badK l i).length ≤ i := by
  unfold badK
  have := List.length_filter_le (fun i => !(Jn.unpack (l.getD i [])).ok && !blank (l.getD i [])) (List.range i)
  rwa [List.length_range] at this
end Go.Jn
namespace Go.Proofs.YtbmnbdkbgpajeaaGreatDoor
open Go.RowKit Go.Own Go.Jn Go.Disk Go.BigFrame Go.Sha
structure JM (w : World) (f : Ft) (J : Jf) (j : JS) : Prop where
  head : Blk w J.g [.pointer (some ⟨f.p, 0, none⟩), J.vn, J.vb, J.vt, .int .i64 j.next, .int .i64 j.fin, .bool j.closed] 89
  rn : w.ownsRow (J.g + 1) 3 1 J.vn j.rs.length (intsV (nums j))
  rb : w.ownsRow (J.g + 1) 3 1 J.vb j.bad.length (intsV j.bad)
  rt : w.ownsRow (J.g + 1) 9 1 J.vt j.rs.length ((texts j).map str)
  low : ∀ x ∈ f.all, x < J.g
  nb : ∀ b, J.vn.ownBlock = some b → J.vb.ownBlock ≠ some b
  fin : j.fin ≤ 4096
  next : 1 ≤ j.next ∧ j.next ≤ 4097
  few : j.rs.length ≤ 4096 + j.next ∧ j.bad.length ≤ 4096
theorem JM.chg {w w' : World} {f : Ft} {J : Jf} {j : JS} {F : List Nat} (h : JM w f J j) (hc : Chg F w w') (hF : ∀ x ∈ J.all, x ∉ F) : JM w' f J j :=
  ⟨h.head.chg hc (hF _ (by simp [Jf.all])), own_chg h.rn hc (fun b hb => hF b (by simp [Jf.all, hb])), own_chg h.rb hc (fun b hb => hF b (by simp [Jf.all, hb])), own_chg h.rt hc (fun b hb => hF b (by simp [Jf.all, hb])), h.low, h.nb, h.fin, h.next, h.few⟩
theorem JM.below {w w' : World} {f : Ft} {J : Jf} {j : JS} (h : JM w f J j) (hb : Below w.heap.size w w') : JM w' f J j := h.chg (.of_below (F := []) hb) (by simp)
/-- the blocks of a journal lie behind its first one, and behind the disk's -/
theorem JM.lo {w : World} {f : Ft} {J : Jf} {j : JS} (h : JM w f J j) : ∀ x ∈ J.all, J.g ≤ x ∧ x < w.heap.size := fun x hx => by
  simp only [Jf.all, List.mem_cons, List.mem_append, Option.mem_toList] at hx
  rcases hx with rfl | hx | hx | hx
  · exact ⟨Nat.le_refl _, h.head.lt⟩
  · have := h.rn.lt x hx; omega
  · have := h.rb.lt x hx; omega
  · have := h.rt.lt x hx; omega
theorem JM.apart {w : World} {f : Ft} {J : Jf} {j : JS} (h : JM w f J j) : ∀ x ∈ J.all, x ∉ f.all := fun x hx hf => by have := (h.lo x hx).1; have := h.low x hf; omega
/-- two rows of different kinds lie in different blocks -/
theorem own_types {w : World} {b1 b2 s1 s2 n1 n2 : Nat} {e1 e2 : TypeId} {v1 v2 : Value} {x1 x2 : List Value} (h1 : w.ownsRow b1 e1 s1 v1 n1 x1) (h2 : w.ownsRow b2 e2 s2 v2 n2 x2) (he : e1 ≠ e2) : ∀ b, v1.ownBlock = some b → v2.ownBlock ≠ some b := fun b h3 h4 => by
  rcases h1.2 with ⟨rfl, _⟩ | ⟨g, c, cur, rfl, _, hg, _⟩
  · cases h3
  · rcases h2.2 with ⟨rfl, _⟩ | ⟨g2, c2, cur2, rfl, _, hg2, _⟩
    · cases h4
    · injection h3 with h3
      injection h4 with h4
      subst h3 h4
      rw [hg] at hg2
      injection hg2 with hg2
      injection hg2 with _ hg2
      exact he hg2
theorem wpList_value_stop {P : Program} {ops : Array Oper} {Q : Exit → Act → World → Prop} {o : Oper} {rest : List Oper} {a : Act} {w w' : World} {v : Value} (hw : Region.wanted o (yielded ops a.tmps) = true)
    (h : (execOp a.eval o).run P w = .ok (.value v) w') (hn : ∀ u : Value, Hid (u = v) → wpList P ops Q rest (a.put o.dst u) w') : wpList P ops Q (o :: rest) a w :=
  wpList_of_yields hw (yields_value h (hn v rfl))
theorem sl_sec {W : World} {v : Value} {s : List UInt8} (h : Sl W 1 v s.length (s.map byv)) (h64 : s.length = 64) : ∃ g off cap, v = .slice (some ⟨g, off, none⟩) 64 cap ∧ Cells W g off (s.map byv) ∧ g < W.heap.size := by
  obtain ⟨_, ⟨_, h0⟩ | ⟨g, off, cap, hv, hc1, hc2, hC, hlt⟩⟩ := h
  · omega
  · exact ⟨g, off, cap, by rw [hv, h64], hC, hlt⟩
theorem own_blk_ne {w : World} {b1 s1 n1 : Nat} {e1 e2 : TypeId} {v1 : Value} {x1 x2 : List Value} {g : Nat} (h1 : w.ownsRow b1 e1 s1 v1 n1 x1) (h2 : Blk w g x2 e2) (he : e1 ≠ e2) : v1.ownBlock ≠ some g := fun h => by
  rcases h1.2 with ⟨rfl, _⟩ | ⟨g2, c, cur, rfl, _, hg, _⟩
  · cases h
  · injection h with h
    subst h
    unfold Blk at h2
    rw [h2] at hg
    injection hg with hg
    injection hg with _ hg
    exact he hg.symm
theorem eqlSec (w : World) (a b : List UInt8) (ha : a.length = 64) (hb : b.length = 64) : (binOp .eql 96 (bval a) (bval b)).run Tryz.prog w = .ok (.bool (a == b)) w := by
  unfold bval
  have h : (Op.equalIn 10000 96 (.agg (a.map byv).toArray) (.agg (b.map byv).toArray)).run Tryz.prog w = .ok (a == b) w := run_equalIn_bytes (P := Tryz.prog) w 9998 96 5 64 hTsec hT8 size8 a b ha hb
  rw [run_eql_struct, h]
  rfl
theorem eqlSec_exec {o : Oper} {ρ : Operand → Value} {x y : Operand} {a b : List UInt8} {ty : TypeId} (ho : o.op = .binOp .eql 96 x y ty) (hx : ρ x = bval a) (hy : ρ y = bval b) (ha : a.length = 64) (hb : b.length = 64) (w : World) :
    (execOp ρ o).run Tryz.prog w = .ok (.value (.bool (a == b))) w := by
  have hg : (eqGuard .eql 96 x y (.agg (a.map byv).toArray) (.agg (b.map byv).toArray)).run Tryz.prog w = .ok () w := run_eqGuard_agg w .eql 96 x y _ _ (by kernel_rfl)
  change (eqGuard .eql 96 x y (bval a) (bval b)).run Tryz.prog w = _ at hg
  unfold execOp
  simp only [ho, hx, hy, Sem.run_bind, Sem.run_pure, Result.andThen_ok, hg, eqlSec w a b ha hb]
theorem buildSec (w : World) : (Instr.build 96 #[]).run Tryz.prog w = .ok (bval Disk.zeros) w := by kernel_rfl
theorem buildSec_exec {o : Oper} {ρ : Operand → Value} (ho : o.op = .build 96 #[]) (w : World) : (execOp ρ o).run Tryz.prog w = .ok (.value (bval Disk.zeros)) w := by
  unfold execOp
  simp only [ho, List.map_toArray, List.map_nil, Sem.run_bind, buildSec, Sem.run_pure, Result.andThen_ok]
theorem infoPart2 : (Tryz.prog.info? 94).map (fun i => (i.zero, i.size, i.bytes)) = some (some (prtV prt0), 5, 48) := by kernel_rfl
theorem infoInt : (Tryz.prog.info? 3).map (fun i => (i.zero, i.size, i.bytes)) = some (some (.int .i64 0), 1, 8) := by kernel_rfl
theorem hTparts : Tryz.prog.underlying 90 = some (.slice 94) := by kernel_rfl
theorem hTints : Tryz.prog.underlying 51 = some (.slice 3) := by kernel_rfl
theorem infoJ : (Tryz.prog.info? 89).map (·.size) = some 7 := by kernel_rfl
/-- Behind k sectors. -/
structure OpR (S : List (List UInt8)) (f : Ft) (G : Nat) (k : Nat) (v vb : Value) (W : World) : Prop where
  head : Blk W G [.pointer (some ⟨f.p, 0, none⟩), .slice none 0 0, vb, .slice none 0 0, .int .i64 (nextK S k), .int .i64 (finK S k), .bool false] 89
  row : W.ownsRow (G + 1) 94 5 v k (prts ((S.take k).map Jn.unpack))
  bad : W.ownsRow (G + 1) 3 1 vb (badK S k).length (intsV (badK S k))
theorem OpR.below {S : List (List UInt8)} {f : Ft} {G k : Nat} {v vb : Value} {W W' : World} (h : OpR S f G k v vb W) (hb : Below W.heap.size W W') : OpR S f G k v vb W' := ⟨h.head.below hb h.head.lt, own_below h.row hb, own_below h.bad hb⟩
end Go.Proofs.YtbmnbdkbgpajeaaGreatDoor
end
