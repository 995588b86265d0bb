/- A region that draws its order and whose effects stand in one chain: one walk in the order of the text; the effects in their exact worlds, every other operation with one value in all worlds that the region may come to. -/
import Derived.Test.YtbmnbdkbgpajeaaGreatDoorFR11
/- A region that draws its order and whose effects stand in one chain: one walk in the order of the text; the effects in their exact worlds, every other operation with one value in all worlds that the region may come to. -/
section
namespace Go.SqC
open Go.RowKit Go.Own
/-- Slots are written once, by one operation; who writes none is an effect. -/
def dstsB (l : List Oper) (N : Nat) (ps : List Nat) : Bool := (List.range l.length).all fun i => match l[i]? with
  | some o => (match o.dst with
    | some d => decide (d < N) && (List.range l.length).all fun j => i == j || (match l[j]? with | some o' => o'.dst != some d | none => true)
    | none => ps.contains i)
  | none => false
/-- Each effect waits for all effects before it. -/
def chainB (l : List Oper) (ps : List Nat) : Bool := ps.all fun k => ps.all fun j => !decide (j < k) || ancB l k j
/-- An effect that stands last waits for all. -/
def sinkB (l : List Oper) (ps : List Nat) : Bool := !ps.contains (l.length - 1) || (List.range (l.length - 1)).all fun j => ancB l (l.length - 1) j
def sqcB (l : List Oper) (N : Nat) (ps : List Nat) : Bool :=
  Region.noSelect l.toArray && edgesB l.toArray && dstsB l N ps && looksB l l.length && plainB l l.length ps && chainB l ps && sinkB l ps
structure SqFc (l : List Oper) (N : Nat) (ps : List Nat) : Prop where
  sel : ∀ (j : Nat) (o : Oper) cs b, l[j]? = some o → o.op ≠ .select cs b
  edges : ∀ (i : Nat) (o : Oper), l[i]? = some o → ∀ j, waitsB o j = true → j < i
  dst : ∀ (i : Nat) (o : Oper) d, l[i]? = some o → o.dst = some d → d < N ∧ ∀ (j : Nat) (o' : Oper), l[j]? = some o' → i ≠ j → o'.dst ≠ some d
  eff : ∀ (i : Nat) (o : Oper), l[i]? = some o → ps.contains i = false → ∃ d, o.dst = some d
  looks : ∀ (k : Nat) (o : Oper), l[k]? = some o → ∀ t, t ∈ o.looksAt l.toArray → ∀ (j : Nat) (o' : Oper), l[j]? = some o' → o'.dst = some t → ancB l k j = true
  chain : ∀ k j, ps.contains k = true → ps.contains j = true → j < k → ancB l k j = true
  sink : ps.contains (l.length - 1) = true → ∀ j, j < l.length - 1 → ancB l (l.length - 1) j = true

section
variable {P : Program} {l : List Oper} {N : Nat} {ps : List Nat} {Ext : World → Prop}

/-- The walk in the order of the text. -/
def SqW (P : Program) (l : List Oper) (ps : List Nat) (Ext : World → Prop) (Fin : Act → World → Prop) : Nat → List Oper → Act → World → Prop
  | _, [], a, w => Fin a w
  | k, o :: r, a, w =>
    if Region.wanted o (yielded l.toArray a.tmps) = true then
      if ps.contains k = true then Own.Yields P o a.eval w (fun v w' => (r ≠ [] → Ext w') ∧ SqW P l ps Ext Fin (k + 1) r (a.put o.dst v) w')
      else ∃ v, (∀ w1, Ext w1 → (execOp a.eval o).run P w1 = .ok (.value v) w1) ∧ SqW P l ps Ext Fin (k + 1) r (a.put o.dst v) w
    else SqW P l ps Ext Fin (k + 1) r (a.put o.dst undef) w

theorem slot_at (F : SqFc l N ps) {a0 : Act} (hN : a0.tmps.size = N) (u : Nat → Value) {k j : Nat} (hj : j < k) {o : Oper} {d : Tmp} (ho : l[j]? = some o) (hd : o.dst = some d) : (putAll l a0 u k).tmps.getD d undef = u j := by
  obtain ⟨hdN, hu⟩ := F.dst j o d ho hd
  exact putAll_at l a0 u j d (by rw [hN]; exact hdN) o ho hd k hj fun i oi hi hoi hne => hu i oi hoi hne

/-- A frame held against the walk's frame, at what operation k looks at. -/
theorem agree_at (F : SqFc l N ps) {a0 b : Act} (hN : a0.tmps.size = N) {u : Nat → Value} {k m : Nat} (hkm : k ≤ m) {o : Oper} (ho : l[k]? = some o)
    (hother : ∀ t, (∀ (i : Nat) (o : Oper), l[i]? = some o → o.dst ≠ some t) → b.tmps.getD t undef = a0.tmps.getD t undef)
    (hanc : ∀ j, ancB l k j = true → ∀ o d, l[j]? = some o → o.dst = some d → b.tmps.getD d undef = u j) :
    ∀ t, t ∈ o.looksAt l.toArray → b.tmps.getD t undef = (putAll l a0 u m).tmps.getD t undef := by
  intro t ht
  by_cases hx : ∃ (j : Nat) (oj : Oper), l[j]? = some oj ∧ oj.dst = some t
  · obtain ⟨j, oj, hoj, hdj⟩ := hx
    have ha := F.looks k o ho t ht j oj hoj hdj
    rw [hanc j ha oj t hoj hdj, slot_at F hN u (by have := ancB_lt ha; omega) hoj hdj]
  · have hno : ∀ (i : Nat) (o : Oper), l[i]? = some o → o.dst ≠ some t := fun i o ho hot => hx ⟨i, o, ho, hot⟩
    rw [hother t hno, slot_other u fun i o _ ho => hno i o ho]
theorem agree_walk (F : SqFc l N ps) {a0 : Act} (hN : a0.tmps.size = N) {u u' : Nat → Value} {k m m' : Nat} (hkm : k ≤ m) (hkm' : k ≤ m') {o : Oper} (ho : l[k]? = some o)
    (hanc : ∀ j, ancB l k j = true → u j = u' j) : ∀ t, t ∈ o.looksAt l.toArray → (putAll l a0 u m).tmps.getD t undef = (putAll l a0 u' m').tmps.getD t undef :=
  agree_at F hN hkm' ho (fun t ht => slot_other u fun i o _ ho => ht i o ho)
    (fun j hj oj d hoj hd => by rw [slot_at F hN u (by have := ancB_lt hj; omega) hoj hd]; exact hanc j hj)

/-- One step of the walk is right for value x. -/
def Cons1 (P : Program) (l : List Oper) (ps : List Nat) (Ext : World → Prop) (k : Nat) (A : Act) (x : Value) : Prop :=
  ∀ o, l[k]? = some o → (Region.wanted o (yielded l.toArray A.tmps) = true → ps.contains k = false → ∀ w1, Ext w1 → (execOp A.eval o).run P w1 = .ok (.value x) w1) ∧
    (Region.wanted o (yielded l.toArray A.tmps) = false → x = undef)
theorem Cons1.move (F : SqFc l N ps) {a0 : Act} (hN : a0.tmps.size = N) {u u' : Nat → Value} {k : Nat} (hanc : ∀ j, ancB l k j = true → u j = u' j) {x : Value}
    (h : Cons1 P l ps Ext k (putAll l a0 u k) x) : Cons1 P l ps Ext k (putAll l a0 u' k) x := by
  intro o ho
  have hag := agree_walk F hN (a0 := a0) (Nat.le_refl k) (Nat.le_refl k) ho hanc
  have h1 := wanted_same (ops := l.toArray) (by rw [putAll_size, putAll_size]) hag
  have h2 := exec_same (ops := l.toArray) (fun cs b => F.sel k o cs b ho) hag
  have h3 := h o ho
  rw [h1, h2] at h3
  exact h3

/-- What holds once the operations of L have come up with the values val, in the world w. -/
structure Inv (P : Program) (l : List Oper) (ps : List Nat) (Ext : World → Prop) (Fin : Act → World → Prop) (a0 : Act) (L : Nat → Prop) (val : Nat → Value) (w : World) : Prop where
  ext : Ext w ∨ (ps.contains (l.length - 1) = true ∧ L (l.length - 1))
  below : ∀ j, L j → j < l.length
  closed : ∀ (m : Nat) (o : Oper), L m → l[m]? = some o → ∀ j, waitsB o j = true → L j
  cons : ∀ u, (∀ j, L j → u j = val j) → ∀ j, L j → Cons1 P l ps Ext j (putAll l a0 u j) (val j)
  walk : ∃ p u, p ≤ l.length ∧ (∀ j, j < p → ps.contains j = true → L j) ∧ (∀ j, L j → ps.contains j = true → j < p) ∧ (∀ j, L j → u j = val j) ∧
    (∀ j, j < p → Cons1 P l ps Ext j (putAll l a0 u j) (u j)) ∧ SqW P l ps Ext Fin p (l.drop p) (putAll l a0 u p) w
theorem Inv.anc {Fin : Act → World → Prop} {a0 : Act} {L : Nat → Prop} {val : Nat → Value} {w : World} (I : Inv P l ps Ext Fin a0 L val w) {k j : Nat} (hk : L k) (h : ancB l k j = true) : L j :=
  anc_in L I.closed k j (fun o ho j hj => I.closed k o hk ho j hj) h

/-- From place p the walk goes on to place k: what has come up has its values; effects that have not come up are played through. -/
theorem Inv.sim (_F : SqFc l N ps) {Fin : Act → World → Prop} {a0 : Act} (_hN : a0.tmps.size = N) {L : Nat → Prop} {val : Nat → Value} {w : World} (I : Inv P l ps Ext Fin a0 L val w) :
    ∃ p, p ≤ l.length ∧ (∀ j, j < p → ps.contains j = true → L j) ∧ (∀ j, L j → ps.contains j = true → j < p) ∧ ∀ m, p + m ≤ l.length → ∃ u w', (∀ j, L j → u j = val j) ∧ (∀ j, j < p + m → Cons1 P l ps Ext j (putAll l a0 u j) (u j)) ∧
      SqW P l ps Ext Fin (p + m) (l.drop (p + m)) (putAll l a0 u (p + m)) w' ∧ (p + m < l.length → Ext w') ∧ ((∀ j, p ≤ j → j < p + m → ps.contains j = false) → w' = w) := by
  obtain ⟨p, u0, hp, hpe, hpl, hu0, hc0, hw0⟩ := I.walk
  refine ⟨p, hp, hpe, hpl, fun m => ?_⟩
  induction m with
  | zero =>
    refine fun _ => ⟨u0, w, hu0, hc0, hw0, fun hlt => ?_, fun _ => rfl⟩
    rcases I.ext with h | ⟨h1, h2⟩
    · exact h
    · exact absurd (hpl _ h2 h1) (by omega)
  | succ m ih =>
    intro hm
    obtain ⟨u, w', hL, hc, hwalk, hext', hsame⟩ := ih (by omega)
    have hlt : p + m < l.length := by omega
    have hext := hext' hlt
    have ho : l[p + m]? = some l[p + m] := by simp [hlt]
    obtain ⟨k, hk⟩ : ∃ k, k = p + m := ⟨_, rfl⟩
    rw [List.drop_eq_getElem_cons hlt] at hwalk
    have hkk : p + (m + 1) = k + 1 := by omega
    rw [hkk]
    have hpk : p ≤ k := by omega
    clear hkk
    subst hk
    -- once the value and the world are known
    have go : ∀ x w2, (L (p + m) → x = val (p + m)) → Cons1 P l ps Ext (p + m) (putAll l a0 u (p + m)) x → SqW P l ps Ext Fin (p + m + 1) (l.drop (p + m + 1)) ((putAll l a0 u (p + m)).put l[p + m].dst x) w2 → (p + m + 1 < l.length → Ext w2) → (ps.contains (p + m) = false → w2 = w') →
        ∃ u w'', (∀ j, L j → u j = val j) ∧ (∀ j, j < p + m + 1 → Cons1 P l ps Ext j (putAll l a0 u j) (u j)) ∧ SqW P l ps Ext Fin (p + m + 1) (l.drop (p + m + 1)) (putAll l a0 u (p + m + 1)) w'' ∧ (p + m + 1 < l.length → Ext w'') ∧ ((∀ j, p ≤ j → j < p + m + 1 → ps.contains j = false) → w'' = w) := by
      intro x w2 hx hcx hw2 he2 hs2
      let u' : Nat → Value := fun j => if j = p + m then x else u j
      have hu' : ∀ j, j ≠ p + m → u' j = u j := fun j hj => by simp [u', hj]
      have hux : u' (p + m) = x := by simp [u']
      have hA : ∀ j, j ≤ p + m → putAll l a0 u' j = putAll l a0 u j := fun j hj => putAll_congr l a0 j fun i hi => hu' i (by omega)
      refine ⟨u', w2, fun j hj => ?_, fun j hj => ?_, ?_, he2, fun hno => ?_⟩
      · by_cases h : j = p + m
        · rw [h, hux]; exact hx (h ▸ hj)
        · rw [hu' j h]; exact hL j hj
      · rw [hA j (by omega)]
        rcases Nat.lt_or_ge j (p + m) with h | h
        · rw [hu' j (by omega)]; exact hc j h
        · obtain rfl : j = p + m := by omega
          rw [hux]; exact hcx
      · rw [putAll, hA _ (Nat.le_refl _), hux]
        simpa only [ho, Option.bind_some] using hw2
      · rw [hs2 (hno _ (by omega) (by omega))]
        exact hsame fun j h1 h2 => hno j h1 (by omega)
    unfold SqW at hwalk
    by_cases hw : Region.wanted l[p + m] (yielded l.toArray (putAll l a0 u (p + m)).tmps) = true
    · rw [if_pos hw] at hwalk
      by_cases hps : ps.contains (p + m) = true
      · rw [if_pos hps] at hwalk
        obtain ⟨v, w2, he2, hw2⟩ := hwalk.some
        refine go v w2 (fun h => absurd (hpl _ h hps) (by omega)) (fun o' ho' => ?_) hw2 (fun hlt2 => he2 fun e => ?_) (fun h => by rw [hps] at h; cases h)
        rotate_left
        · have := congrArg List.length e
          simp only [List.length_drop, List.length_nil] at this
          omega
        obtain rfl : o' = l[p + m] := Option.some.inj (ho'.symm.trans ho)
        exact ⟨fun _ h => (by rw [hps] at h; cases h), fun h => (by rw [hw] at h; cases h)⟩
      · rw [if_neg hps] at hwalk
        obtain ⟨v, hv, hw2⟩ := hwalk
        refine go v w' (fun h => ?_) (fun o' ho' => ?_) hw2 (fun _ => hext) fun _ => rfl
        · have h1 := ((I.cons u hL _ h) _ ho).1 hw (by simpa using hps) w' hext
          rw [hv w' hext] at h1
          injection h1 with h2 _
          injection h2
        · obtain rfl : o' = l[p + m] := Option.some.inj (ho'.symm.trans ho)
          exact ⟨fun _ _ => hv, fun h => (by rw [hw] at h; cases h)⟩
    · rw [if_neg hw] at hwalk
      refine go undef w' (fun h => ?_) (fun o' ho' => ?_) hwalk (fun _ => hext) fun _ => rfl
      · exact (((I.cons u hL _ h) _ ho).2 (by simpa using hw)).symm
      · obtain rfl : o' = l[p + m] := Option.some.inj (ho'.symm.trans ho)
        exact ⟨fun h => absurd h hw, fun _ => rfl⟩

/-- The frame once the operations of L have come up. -/
structure Fr (l : List Oper) (a0 : Act) (L : Nat → Prop) (val : Nat → Value) (a : Act) : Prop where
  size : a.tmps.size = a0.tmps.size
  defers : a.defers = a0.defers
  other : ∀ t, (∀ (i : Nat) (o : Oper), l[i]? = some o → o.dst ≠ some t) → a.tmps.getD t undef = a0.tmps.getD t undef
  slot : ∀ (j : Nat) (o : Oper) d, L j → l[j]? = some o → o.dst = some d → a.tmps.getD d undef = val j

theorem agree_real (F : SqFc l N ps) {_Fin : Act → World → Prop} {a0 a : Act} (hN : a0.tmps.size = N) {L : Nat → Prop} {val u : Nat → Value} (fr : Fr l a0 L val a) (hu : ∀ j, L j → u j = val j) {k m : Nat} (hkm : k ≤ m) {o : Oper} (ho : l[k]? = some o) (hanc : ∀ j, ancB l k j = true → L j) :
    ∀ t, t ∈ o.looksAt l.toArray → a.tmps.getD t undef = (putAll l a0 u m).tmps.getD t undef :=
  agree_at F hN hkm ho fr.other fun j hj oj d hoj hd => by rw [fr.slot j oj d (hanc j hj) hoj hd, hu j (hanc j hj)]

theorem Inv.add (F : SqFc l N ps) {Fin : Act → World → Prop} {a0 : Act} (hN : a0.tmps.size = N) {L L' : Nat → Prop} {val : Nat → Value} {w w2 : World} (I : Inv P l ps Ext Fin a0 L val w) {i : Nat} (hi : i < l.length) (hni : ¬ L i) (hdep : ∀ o, l[i]? = some o → ∀ j, waitsB o j = true → L j)
    {u : Nat → Value} (hu : ∀ j, L j → u j = val j) {x : Value} (hext : Ext w2 ∨ (ps.contains (l.length - 1) = true ∧ L' (l.length - 1))) (hcons : Cons1 P l ps Ext i (putAll l a0 u i) x)
    (hwalk : ∃ p u, p ≤ l.length ∧ (∀ j, j < p → ps.contains j = true → L' j) ∧ (∀ j, L' j → ps.contains j = true → j < p) ∧ (∀ j, L' j → u j = if j = i then x else val j) ∧ (∀ j, j < p → Cons1 P l ps Ext j (putAll l a0 u j) (u j)) ∧ SqW P l ps Ext Fin p (l.drop p) (putAll l a0 u p) w2)
    (hL' : ∀ j, L' j ↔ L j ∨ j = i) : Inv P l ps Ext Fin a0 L' (fun j => if j = i then x else val j) w2 := by
  have hanc : ∀ j, ancB l i j = true → L j := fun j hj => anc_in L I.closed i j hdep hj
  have hag : ∀ u' : Nat → Value, (∀ j, L' j → u' j = if j = i then x else val j) → ∀ j, L j → u' j = val j := fun u' h j hj => by
    have hne : j ≠ i := fun e => hni (e ▸ hj)
    rw [h j ((hL' j).2 (.inl hj)), if_neg hne]
  refine ⟨hext, fun j hj => ?_, fun m o hm ho j hj => ?_, fun u' hu' j hj => ?_, hwalk⟩
  · rcases (hL' j).1 hj with h | h
    · exact I.below j h
    · rw [h]; exact hi
  · refine (hL' j).2 (.inl ?_)
    rcases (hL' m).1 hm with h | h
    · exact I.closed m o h ho j hj
    · exact hdep o (h ▸ ho) j hj
  · by_cases hji : j = i
    · subst hji
      simp only [if_true]
      exact hcons.move F hN fun k hk => by rw [hu k (hanc k hk), hag u' hu' k (hanc k hk)]
    · simp only [if_neg hji]
      exact I.cons u' (hag u' hu') j (((hL' j).1 hj).resolve_right hji)

theorem sqc_any (F : SqFc l N ps) {Fin : Act → World → Prop} {a0 : Act} (hN : a0.tmps.size = N) (he : edgesB l.toArray = true) {Q : Exit → Act → World → Prop}
    (hend : ∀ listed a w val, listed.size = l.length → (∀ i, i < l.length → listed.getD i true = true) → Inv P l ps Ext Fin a0 (fun j => j < l.length) val w → Fr l a0 (fun j => j < l.length) val a → wpAny P .any l.toArray Q 0 listed a w)
    (f : Nat) : ∀ (listed : Array Bool) (a : Act) (w : World) (val : Nat → Value), HeadInv .any l.toArray l.length listed → Inv P l ps Ext Fin a0 (fun j => j < l.length ∧ listed.getD j false = true) val w →
      Fr l a0 (fun j => j < l.length ∧ listed.getD j false = true) val a → ((listed.toList.take l.length).count false = f) → wpAny P .any l.toArray Q f listed a w := by
  have hsize : l.toArray.size = l.length := by simp
  induction f with
  | zero =>
    intro listed a w val inv I fr hf
    have hall : ∀ i, i < l.length → listed.getD i true = true := fun i hi => by
      have hlt : i < listed.size := by rw [inv.size, hsize]; omega
      have h0 := List.count_eq_zero.1 hf
      have h1 : listed[i] ∈ listed.toList.take l.length := by
        rw [List.mem_take_iff_getElem]
        exact ⟨i, by simp; omega, by simp⟩
      cases hb : listed[i] with
      | true => simp [hlt, hb]
      | false => rw [hb] at h1; exact absurd h1 h0
    have hL : (fun j => j < l.length ∧ listed.getD j false = true) = (fun j => j < l.length) := by
      funext j
      exact propext ⟨fun h => h.1, fun h => ⟨h, getD_both' (hall j h) (by rw [inv.size, hsize]; omega)⟩⟩
    rw [hL] at I fr
    exact hend listed a w val (by rw [inv.size, hsize]) hall I fr
  | succ f ih =>
    intro listed a w val inv I fr hf
    have hex : ∃ i, i < l.length ∧ listed.getD i true = false := by
      have : false ∈ listed.toList.take l.length := List.count_pos_iff.1 (by omega)
      rw [List.mem_take_iff_getElem] at this
      obtain ⟨i, hi, hb⟩ := this
      simp only [Array.length_toList] at hi
      exact ⟨i, by omega, by simp [show i < listed.size by omega]; simpa using hb⟩
    obtain ⟨i0, hi0, hun0⟩ := hex
    have hne : Region.ready .any l.toArray listed ≠ [] := by
      have key : ∀ m, m < l.length → listed.getD m true = false → ∃ k, k ≤ m ∧ listed.getD k true = false ∧ ∀ j, j < k → listed.getD j true = true := by
        intro m
        induction m using Nat.strongRecOn with
        | _ m ihm =>
          intro hm hu
          by_cases hx : ∃ j, j < m ∧ listed.getD j true = false
          · obtain ⟨j, hj, hju⟩ := hx
            obtain ⟨k, hk, h⟩ := ihm j hj (by omega) hju
            exact ⟨k, by omega, h⟩
          · exact ⟨m, Nat.le_refl _, hu, fun j hj => by
              cases hb : listed.getD j true with
              | true => rfl
              | false => exact absurd ⟨j, hj, hb⟩ hx⟩
      obtain ⟨k, hk, hu, hl⟩ := key i0 hi0 hun0
      exact List.ne_nil_of_mem (ready_least he inv.size (by rw [hsize]; omega) hu hl)
    refine ⟨fun h0 => absurd h0 hne, fun i hi => ?_⟩
    obtain ⟨hun, o, ho', hall⟩ := mem_ready.1 hi
    have ho : l[i]? = some o := by simpa using ho'
    have hin : i < l.length := (List.getElem?_eq_some_iff.1 ho).1
    have hni : ¬ (i < l.length ∧ listed.getD i false = true) := fun h => by
      have := getD_both hun
      rw [h.2] at this; cases this
    have hdep : ∀ o', l[i]? = some o' → ∀ j, waitsB o' j = true → j < l.length ∧ listed.getD j false = true := fun o' hoo j hj => by
      obtain rfl : o = o' := Option.some.inj (ho.symm.trans hoo)
      have hji := F.edges i o ho j hj
      obtain ⟨e, hem, hb⟩ := Array.any_eq_true'.1 hj
      simp only [Bool.and_eq_true, beq_iff_eq] at hb
      have := hall e hem hb.1
      rw [hb.2] at this
      exact ⟨by omega, this⟩
    have hanc : ∀ j, ancB l i j = true → j < l.length ∧ listed.getD j false = true := fun j hj => anc_in _ I.closed i j hdep hj
    have hL' : ∀ j, (j < l.length ∧ (listed.setIfInBounds i true).getD j false = true) ↔ (j < l.length ∧ listed.getD j false = true) ∨ j = i := fun j => by
      by_cases hji : j = i
      · subst hji
        have hlt : j < listed.size := by rw [inv.size, hsize]; omega
        simp [hlt, hin]
      · rw [getD_set_ne false (Ne.symm hji)]
        simp [hji]
    have hgi : l[i] = o := by
      have := List.getElem?_eq_getElem hin
      rw [ho] at this; exact (Option.some.inj this).symm
    -- what is left once the value, the world and the walk are known
    have go : ∀ x w2, Inv P l ps Ext Fin a0 (fun j => j < l.length ∧ (listed.setIfInBounds i true).getD j false = true) (fun j => if j = i then x else val j) w2 →
        wpAny P .any l.toArray Q f (listed.setIfInBounds i true) (a.put o.dst x) w2 := fun x w2 hi' => by
      refine ih _ _ _ _ (inv.set hi hin) hi' ⟨?_, ?_, ?_, ?_⟩ ?_
      · rw [put_size]; exact fr.size
      · rw [put_defers]; exact fr.defers
      · intro t ht
        rw [← fr.other t ht]
        cases hd : o.dst with
        | none => rfl
        | some d =>
          by_cases htl : t < a.tmps.size
          · rw [put_getD _ _ _ _ htl, if_neg (fun h => ht i o ho (by rw [hd, h]))]
          · simp [Act.put, show ¬ t < a.tmps.size from htl]
      · intro j oj dj hj hoj hdj
        by_cases hji : j = i
        · subst hji
          obtain rfl : oj = o := Option.some.inj (hoj.symm.trans ho)
          obtain ⟨hdN, _⟩ := F.dst j oj dj hoj hdj
          rw [hdj, put_getD _ _ _ _ (by rw [fr.size, hN]; exact hdN), if_pos rfl]
          simp
        · have h1 := fr.slot j oj dj (((hL' j).1 hj).resolve_right hji) hoj hdj
          simp only [if_neg hji]
          rw [← h1]
          cases hd : o.dst with
          | none => rfl
          | some d =>
            obtain ⟨_, huniq⟩ := F.dst i o d ho hd
            have hne : dj ≠ d := fun h => huniq j oj hoj (Ne.symm hji) (by rw [hdj, h])
            by_cases htl : dj < a.tmps.size
            · rw [put_getD _ _ _ _ htl, if_neg (Ne.symm hne)]
            · simp [Act.put, show ¬ dj < a.tmps.size from htl]
      · have hlt : i < listed.size := by rw [inv.size, hsize]; omega
        have h1 : (listed.toList.take l.length)[i]? = some false := by
          rw [List.getElem?_take_of_lt hin]
          simp only [Array.getElem?_toList]
          simp [hlt] at hun ⊢
          exact hun
        have h2 := count_set_true _ _ h1
        rw [Array.toList_setIfInBounds, List.take_set]
        omega
    unfold wpOp
    simp only [ho']
    have hextw : Ext w := by
      rcases I.ext with h | ⟨h1, h2⟩
      · exact h
      · have hne : i ≠ l.length - 1 := fun e => hni (e ▸ h2)
        exact absurd (I.anc h2 (F.sink h1 i (by omega))) hni
    obtain ⟨p, hp, hpe, hpl, hsim⟩ := I.sim F hN
    by_cases hps : ps.contains i = true
    · -- an effect
      have hpi : p ≤ i := by
        rcases Nat.lt_or_ge i p with h | h
        · exact absurd (hpe i h hps) hni
        · exact h
      have hno : ∀ j, p ≤ j → j < i → ps.contains j = false := fun j h1 h2 => by
        cases hb : ps.contains j with
        | false => rfl
        | true =>
          have := hpl j (hanc j (F.chain i j hps hb h2)) hb
          omega
      obtain ⟨u, w', hu, hc, hwalk, _, hsame⟩ := hsim (i - p) (by omega)
      rw [show p + (i - p) = i by omega] at hc hwalk hsame
      obtain rfl := hsame hno
      rw [List.drop_eq_getElem_cons hin, hgi] at hwalk
      have hag := agree_real (m := i) F (_Fin := Fin) hN fr hu (Nat.le_refl i) ho hanc
      have hwant := wanted_same (ops := l.toArray) (o := o) (by rw [fr.size, putAll_size]) hag
      have hexec := exec_same (ops := l.toArray) (fun cs b => F.sel i o cs b ho) hag
      -- the walk behind it
      have next : ∀ x w2, (i + 1 < l.length → Ext w2) → Cons1 P l ps Ext i (putAll l a0 u i) x → SqW P l ps Ext Fin (i + 1) (l.drop (i + 1)) ((putAll l a0 u i).put o.dst x) w2 →
          Inv P l ps Ext Fin a0 (fun j => j < l.length ∧ (listed.setIfInBounds i true).getD j false = true) (fun j => if j = i then x else val j) w2 := fun x w2 hext hcx hw2 => by
        let u' : Nat → Value := fun j => if j = i then x else u j
        have hu' : ∀ j, j ≠ i → u' j = u j := fun j hj => by simp [u', hj]
        have hux : u' i = x := by simp [u']
        have hA : ∀ j, j ≤ i → putAll l a0 u' j = putAll l a0 u j := fun j hj => putAll_congr l a0 j fun k hk => hu' k (by omega)
        have hext2 : Ext w2 ∨ (ps.contains (l.length - 1) = true ∧ (l.length - 1 < l.length ∧ (listed.setIfInBounds i true).getD (l.length - 1) false = true)) := by
          by_cases hlt : i + 1 < l.length
          · exact .inl (hext hlt)
          · have e : l.length - 1 = i := by omega
            rw [e]
            exact .inr ⟨hps, (hL' i).2 (.inr rfl)⟩
        refine I.add F hN hin hni hdep hu hext2 hcx ⟨i + 1, u', hin, fun j hj hb => (hL' j).2 ?_, fun j hj hb => ?_, fun j hj => ?_, fun j hj => ?_, ?_⟩ hL'
        · rcases Nat.lt_or_ge j i with h | h
          · exact .inl (hanc j (F.chain i j hps hb h))
          · exact .inr (by omega)
        · rcases (hL' j).1 hj with h | h
          · have := hpl j h hb; omega
          · omega
        · by_cases hji : j = i
          · subst hji; rw [hux, if_pos rfl]
          · rw [hu' j hji, if_neg hji]; exact hu j (((hL' j).1 hj).resolve_right hji)
        · rw [hA j (by omega)]
          rcases Nat.lt_or_ge j i with h | h
          · rw [hu' j (by omega)]; exact hc j h
          · obtain rfl : j = i := by omega
            rw [hux]; exact hcx
        · rw [putAll, hA _ (Nat.le_refl _), hux]
          simpa only [ho, Option.bind_some] using hw2
      unfold SqW at hwalk
      by_cases hw : Region.wanted o (yielded l.toArray (putAll l a0 u i).tmps) = true
      · rw [if_pos (by rw [hwant]; exact hw)]
        rw [if_pos hw, if_pos hps] at hwalk
        left
        have hy : Own.Yields P o a.eval w' (fun v w2 => (l.drop (i + 1) ≠ [] → Ext w2) ∧ SqW P l ps Ext Fin (i + 1) (l.drop (i + 1)) ((putAll l a0 u i).put o.dst v) w2) := by
          unfold Own.Yields at hwalk ⊢; rw [hexec]; exact hwalk
        refine wp_of_yields hy fun v w2 ⟨he2, hw2⟩ => go v w2 (next v w2 (fun hlt2 => he2 fun e => ?_) (fun o' ho'' => ?_) hw2)
        · have := congrArg List.length e
          simp only [List.length_drop, List.length_nil] at this
          omega
        obtain rfl : o' = o := Option.some.inj (ho''.symm.trans ho)
        exact ⟨fun _ h => (by rw [hps] at h; cases h), fun h => (by rw [hw] at h; cases h)⟩
      · rw [if_neg (by rw [hwant]; exact hw)]
        rw [if_neg hw] at hwalk
        refine go undef w' (next undef w' (fun _ => hextw) (fun o' ho'' => ?_) hwalk)
        obtain rfl : o' = o := Option.some.inj (ho''.symm.trans ho)
        exact ⟨fun h => absurd h hw, fun _ => rfl⟩
    · -- no effect: one value
      have hps' : ps.contains i = false := by simpa using hps
      -- its value, by the walk
      have hval : ∃ u, (∀ j, (j < l.length ∧ listed.getD j false = true) → u j = val j) ∧ Cons1 P l ps Ext i (putAll l a0 u i) (u i) ∧
          (∃ p u0, p ≤ l.length ∧ (∀ j, j < p → ps.contains j = true → (j < l.length ∧ (listed.setIfInBounds i true).getD j false = true)) ∧ (∀ j, (j < l.length ∧ (listed.setIfInBounds i true).getD j false = true) → ps.contains j = true → j < p) ∧
            (∀ j, (j < l.length ∧ (listed.setIfInBounds i true).getD j false = true) → u0 j = if j = i then u i else val j) ∧ (∀ j, j < p → Cons1 P l ps Ext j (putAll l a0 u0 j) (u0 j)) ∧ SqW P l ps Ext Fin p (l.drop p) (putAll l a0 u0 p) w) := by
        obtain ⟨p, u0, hp, hpe, hpl, hu0, hc0, hw0⟩ := I.walk
        have hpe' : ∀ j, j < p → ps.contains j = true → (j < l.length ∧ (listed.setIfInBounds i true).getD j false = true) := fun j h1 h2 => (hL' j).2 (.inl (hpe j h1 h2))
        have hpl' : ∀ j, (j < l.length ∧ (listed.setIfInBounds i true).getD j false = true) → ps.contains j = true → j < p := fun j h1 h2 => by
          rcases (hL' j).1 h1 with h | h
          · exact hpl j h h2
          · rw [h, hps'] at h2; cases h2
        rcases Nat.lt_or_ge i p with hip | hip
        · refine ⟨u0, hu0, hc0 i hip, p, u0, hp, hpe', hpl', fun j hj => ?_, hc0, hw0⟩
          by_cases hji : j = i
          · subst hji; rw [if_pos rfl]
          · rw [if_neg hji]; exact hu0 j (((hL' j).1 hj).resolve_right hji)
        · obtain ⟨p', hp', hpe2, hpl2, hsim'⟩ := I.sim F hN
          -- the value by playing on to place i + 1
          have hex : ∃ u, (∀ j, (j < l.length ∧ listed.getD j false = true) → u j = val j) ∧ Cons1 P l ps Ext i (putAll l a0 u i) (u i) := by
            rcases Nat.lt_or_ge i p' with h | h
            · obtain ⟨u, w', h1, h2, _⟩ := hsim' 0 (by omega)
              exact ⟨u, h1, h2 i (by omega)⟩
            · obtain ⟨u, w', h1, h2, _⟩ := hsim' (i + 1 - p') (by omega)
              exact ⟨u, h1, h2 i (by omega)⟩
          obtain ⟨u, h1, h2⟩ := hex
          let u' : Nat → Value := fun j => if j = i then u i else u0 j
          have hu' : ∀ j, j ≠ i → u' j = u0 j := fun j hj => by simp [u', hj]
          have hA : ∀ j, j ≤ i → putAll l a0 u' j = putAll l a0 u0 j := fun j hj => putAll_congr l a0 j fun k hk => hu' k (by omega)
          refine ⟨u, h1, h2, p, u', hp, hpe', hpl', fun j hj => ?_, fun j hj => ?_, ?_⟩
          · by_cases hji : j = i
            · subst hji; simp [u']
            · rw [hu' j hji, if_neg hji]; exact hu0 j (((hL' j).1 hj).resolve_right hji)
          · rw [hA j (by omega), hu' j (by omega)]; exact hc0 j hj
          · rw [hA p hip]; exact hw0
      obtain ⟨u, hu, hcons, hwalk⟩ := hval
      have hag := agree_real (m := i) F (_Fin := Fin) hN fr hu (Nat.le_refl i) ho hanc
      have hwant := wanted_same (ops := l.toArray) (o := o) (by rw [fr.size, putAll_size]) hag
      have hexec := exec_same (ops := l.toArray) (fun cs b => F.sel i o cs b ho) hag
      have hinv := I.add F hN hin hni hdep hu (.inl hextw) hcons hwalk hL'
      by_cases hw : Region.wanted o (yielded l.toArray (putAll l a0 u i).tmps) = true
      · rw [if_pos (by rw [hwant]; exact hw)]
        left
        have hr : (execOp a.eval o).run P w = .ok (.value (u i)) w := by rw [hexec]; exact (hcons o ho).1 hw hps' w hextw
        unfold Oper.wp
        rw [hr]
        exact go (u i) w hinv
      · rw [if_neg (by rw [hwant]; exact hw)]
        have hun : u i = undef := (hcons o ho).2 (by simpa using hw)
        rw [hun] at hinv
        exact go undef w hinv

theorem sqFc_of (hsel : Region.noSelect l.toArray = true) (he : edgesB l.toArray = true) (hd : dstsB l N ps = true) (hl : looksB l l.length = true) (hc : chainB l ps = true) (hsk : sinkB l ps = true) : SqFc l N ps where
  sel := fun j o cs b ho => Region.noSelect_spec hsel j o cs b (by simpa using ho)
  edges := fun i o ho j hj => by
    obtain ⟨e, hem, hb⟩ := Array.any_eq_true'.1 hj
    simp only [Bool.and_eq_true, beq_iff_eq] at hb
    have := edgesB_spec he (i := i) (o := o) (by simpa using ho) e hem hb.1
    omega
  dst := fun i o d ho hod => by
    have hi := (List.getElem?_eq_some_iff.1 ho).1
    have h1 := List.all_eq_true.1 hd i (List.mem_range.2 hi)
    simp only [ho, hod, Bool.and_eq_true, decide_eq_true_eq] at h1
    refine ⟨h1.1, fun j o' ho' hne => ?_⟩
    have h2 := List.all_eq_true.1 h1.2 j (List.mem_range.2 (List.getElem?_eq_some_iff.1 ho').1)
    simp only [ho', Bool.or_eq_true, beq_iff_eq, hne, false_or, bne_iff_ne, ne_eq] at h2
    exact h2
  eff := fun i o ho hp => by
    have hi := (List.getElem?_eq_some_iff.1 ho).1
    have h1 := List.all_eq_true.1 hd i (List.mem_range.2 hi)
    cases hod : o.dst with
    | some d => exact ⟨d, rfl⟩
    | none =>
      simp only [ho, hod] at h1
      rw [hp] at h1; cases h1
  looks := fun k o ho t ht j o' ho' hdt => by
    have hk := (List.getElem?_eq_some_iff.1 ho).1
    have hj := (List.getElem?_eq_some_iff.1 ho').1
    have h1 := List.all_eq_true.1 hl k (List.mem_range.2 hk)
    simp only [ho] at h1
    have h2 := List.all_eq_true.1 (List.all_eq_true.1 h1 t ht) j (List.mem_range.2 hj)
    simp only [ho', hdt, bne_self_eq_false, Bool.false_or] at h2
    exact h2
  chain := fun k j hk hj hlt => by
    have hk' : k ∈ ps := by simpa using hk
    have hj' : j ∈ ps := by simpa using hj
    have h1 := List.all_eq_true.1 (List.all_eq_true.1 hc k hk') j hj'
    simp only [Bool.or_eq_true, Bool.not_eq_true', decide_eq_false_iff_not] at h1
    exact h1.resolve_left fun h => h hlt
  sink := fun hp j hj => by
    unfold sinkB at hsk
    rw [hp] at hsk
    exact List.all_eq_true.1 (by simpa using hsk) j (List.mem_range.2 hj)

/-- A region that draws its order. -/
theorem wp_region_sqc {id : Nat} {Q : Exit → Act → World → Prop} {a : Act} {w : World} (n : Nat) (ps : List Nat) (Ext : World → Prop) (hm : P.follows .mixedOrders = true) (hn : l.length = n) (hB : sqcB l a.tmps.size ps = true) (hext : Ext w.drew)
    (h : SqW P l ps Ext (fun a' w' => Q .normal a' w') 0 l a w.drew) : (Code.region id l.toArray true).wp P Q a w := by
  simp only [sqcB, Bool.and_eq_true] at hB
  obtain ⟨⟨⟨⟨⟨⟨hsel, he⟩, hd⟩, hl⟩, _⟩, hc⟩, hsk⟩ := hB
  have F := sqFc_of hsel he hd hl hc hsk
  have inv0 : HeadInv .any l.toArray l.length (Array.replicate l.toArray.size false) :=
    ⟨by simp, fun j oj _ hl => (by rw [getD_replicate_false] at hl; cases hl), fun t _ h' => getD_in (by simpa using h') (getD_replicate_false _ _)⟩
  have hno : ∀ j, ¬ (j < l.length ∧ (Array.replicate l.toArray.size false).getD j false = true) := fun j hj => by have := hj.2; rw [getD_replicate_false] at this; cases this
  refine wp_region_any hm ?_
  have hseq : Region.seqB .any l.toArray 0 l.length ((List.replicate l.length true).toArray) = true := by
    simp only [Region.seqB, List.isEmpty_iff]
    unfold Region.ready
    rw [List.filter_eq_nil_iff]
    intro i hi
    have hi' : i < l.length := by simpa using hi
    simp [hi']
  have H := sqc_any (Q := Q) (Fin := fun a' w' => Q .normal a' w') F rfl he (fun listed a1 w1 val hsz h1 I fr => ?_) l.length (Array.replicate l.toArray.size false) a w.drew (fun _ => undef) inv0
    ⟨.inl hext, fun j hj => absurd hj (hno j), fun m o hm => absurd hm (hno m), fun u _ j hj => absurd hj (hno j), 0, fun _ => undef, Nat.zero_le _, fun j hj => absurd hj (Nat.not_lt_zero _), fun j hj => absurd hj (hno j), fun j hj => absurd hj (hno j), fun j hj => absurd hj (Nat.not_lt_zero _), h⟩
    ⟨rfl, rfl, fun _ _ => rfl, fun j o d hj => absurd hj (hno j)⟩ (by simp)
  · rw [show l.length = l.toArray.size by simp] at H
    exact H
  · have hlisted : listed = (List.replicate l.length true).toArray := by
      apply Array.ext
      · simp [hsz]
      · intro i hi1 hi2
        have := h1 i (by omega)
        simp only [Array.getD_eq_getD_getElem?, Array.getElem?_eq_getElem hi1, Option.getD_some] at this
        rw [this]
        simp
    obtain ⟨p, hp, hpe, hpl, hsim⟩ := I.sim F rfl
    obtain ⟨u, w', hu, hc', hfin, _, hsame⟩ := hsim (l.length - p) (by omega)
    rw [show p + (l.length - p) = l.length by omega, List.drop_length] at hfin
    have hsame' : w' = w1 := hsame fun j h2 h3 => by
      cases hb : ps.contains j with
      | false => rfl
      | true => have := hpl j (by omega) hb; omega
    subst hsame'
    unfold SqW at hfin
    have ha1 : a1 = putAll l a u l.length := by
      have ht : a1.tmps = (putAll l a u l.length).tmps := by
        refine getD_ext (by rw [putAll_size, fr.size]) fun t ht => ?_
        by_cases hx : ∃ (i : Nat) (o : Oper), l[i]? = some o ∧ o.dst = some t
        · obtain ⟨i, o, ho, hot⟩ := hx
          have hi := (List.getElem?_eq_some_iff.1 ho).1
          rw [slot_at F rfl u hi ho hot, fr.slot i o t hi ho hot, hu i hi]
        · have hno : ∀ (i : Nat) (o : Oper), l[i]? = some o → o.dst ≠ some t := fun i o ho hot => hx ⟨i, o, ho, hot⟩
          rw [slot_other u fun i o _ ho => hno i o ho]
          exact fr.other t hno
      have hdf : a1.defers = (putAll l a u l.length).defers := by rw [putAll_defers, fr.defers]
      cases a1
      cases hp : putAll l a u l.length
      rw [hp] at ht hdf
      simp only at ht hdf
      rw [ht, hdf]
    rw [← ha1] at hfin
    have := wpAny_of_seq (md := .any) (Q' := Q) (P := P) (ops := l.toArray) [] l.length listed a1 w' (fun j => by simp) (by rw [hlisted]; exact hseq) hfin
    exact this
/-- The worlds that the region may come to. -/
structure Come (Ext : World → Prop) where
  w : World
  ext : Ext w
variable {Fin : Act → World → Prop} {k : Nat} {o : Oper} {r : List Oper} {a : Act} {w : World}
theorem nil (h : Fin a w) : SqW P l ps Ext Fin k [] a w := h
theorem quiet (hp : plainOp o.op = true) (hps : ps.contains k = false)
    (h : wpQuiet P l.toArray (fun w' => ∃ s : Come Ext, w' = s.w) (fun a' => SqW P l ps Ext Fin (k + 1) r a' w) [o] a) : SqW P l ps Ext Fin k (o :: r) a w := by
  unfold SqW
  unfold wpQuiet at h
  by_cases hw : Region.wanted o (yielded l.toArray a.tmps) = true
  · rw [if_pos hw] at h ⊢
    rw [if_neg (by rw [hps]; exact Bool.false_ne_true)]
    obtain ⟨v, hv, hn⟩ := h
    exact ⟨v, fun w1 h1 => quietAt_plain hp (hv w1 ⟨⟨w1, h1⟩, rfl⟩), hn⟩
  · rw [if_neg hw] at h ⊢
    exact h
/-- An operation that has one value in all worlds. -/
theorem value (v : Value) (hps : ps.contains k = false) (hw : Region.wanted o (yielded l.toArray a.tmps) = true) (hv : ∀ w1, Ext w1 → (execOp a.eval o).run P w1 = .ok (.value v) w1) (h : SqW P l ps Ext Fin (k + 1) r (a.put o.dst v) w) : SqW P l ps Ext Fin k (o :: r) a w := by
  unfold SqW
  rw [if_pos hw, if_neg (by rw [hps]; exact Bool.false_ne_true)]
  exact ⟨v, hv, h⟩
/-- An effect. -/
theorem effect (hps : ps.contains k = true) (hw : Region.wanted o (yielded l.toArray a.tmps) = true) (h : Own.Yields P o a.eval w (fun v w' => (r ≠ [] → Ext w') ∧ SqW P l ps Ext Fin (k + 1) r (a.put o.dst v) w')) : SqW P l ps Ext Fin k (o :: r) a w := by
  unfold SqW
  rw [if_pos hw, if_pos hps]
  exact h
theorem skip (hw : Region.wanted o (yielded l.toArray a.tmps) = false) (h : SqW P l ps Ext Fin (k + 1) r (a.put o.dst undef) w) : SqW P l ps Ext Fin k (o :: r) a w := by
  unfold SqW
  rw [if_neg (by rw [hw]; exact Bool.false_ne_true)]; exact h
/-- What the walk of one operation shows. -/
theorem yields_of_wp {ops : Array Oper} {R : Act → World → Prop} (hw : Region.wanted o (yielded ops a.tmps) = true)
    (h : wpList P ops (fun e a' w' => e = .normal ∧ a'.defers = a.defers ∧ R a' w') [o] a w) : Own.Yields P o a.eval w (fun v w' => R (a.put o.dst v) w') := by
  unfold wpList at h
  rw [if_pos hw] at h
  rcases h with h | ⟨_, _, _, h, _⟩
  · unfold Oper.wp at h
    unfold Own.Yields
    cases hr : (execOp a.eval o).run P w with
    | halt x w1 =>
      rw [hr] at h
      cases x <;> first | exact h.elim | (obtain ⟨h, _⟩ := h; cases h)
    | ok nx w1 =>
      rw [hr] at h
      cases nx <;> first | exact h.elim | skip
      case value u => exact h.2.2
      case skip => exact h.2.2
      case enter f args =>
        refine Calls.mono h ?_
        intro e w'' h
        cases e with
        | returned v => exact ⟨v, rfl, h.2.2⟩
        | panicked c => exact absurd h.1 (by intro h; cases h)
        | outgrown => obtain ⟨_, _, h, _⟩ := h; cases h
      case row r args => exact Rows.mono h fun v w' h => h.2.2
      case defer dd =>
        have h2 : ({ a with defers := dd :: a.defers }.put o.dst undef).defers = a.defers := h.2.1
        rw [put_defers] at h2
        exact absurd h2 (by simp)
  · cases h
/-- Where the walk of one operation ends. -/
def Here (E : World → Prop) (S : Act → World → Prop) (more : Prop) (d : List Deferred) (e : Exit) (a' : Act) (w' : World) : Prop := e = .normal ∧ a'.defers = d ∧ (more → E w') ∧ S a' w'
theorem here {E : World → Prop} {S : Act → World → Prop} {more : Prop} {d : List Deferred} {a' : Act} {w' : World} (hd : a'.defers = d) (hE : more → E w') (hS : S a' w') : Here E S more d .normal a' w' := ⟨rfl, hd, hE, hS⟩
/-- An effect, by the walk of the one operation. -/
theorem effectW (hps : ps.contains k = true) (hw : Region.wanted o (yielded l.toArray a.tmps) = true) (h : wpList P l.toArray (Here Ext (SqW P l ps Ext Fin (k + 1) r) (r ≠ []) a.defers) [o] a w) : SqW P l ps Ext Fin k (o :: r) a w :=
  effect hps hw (yields_of_wp (R := fun a' w' => (r ≠ [] → Ext w') ∧ SqW P l ps Ext Fin (k + 1) r a' w') hw h)
attribute [irreducible] Here
end
end Go.SqC
end
