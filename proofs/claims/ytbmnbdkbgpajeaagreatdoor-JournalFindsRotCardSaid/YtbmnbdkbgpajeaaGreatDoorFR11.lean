/- The region lemma of Sq with a relation besides: what an operation yields may be held against what its ancestors yielded. -/
import Derived.Test.YtbmnbdkbgpajeaaGreatDoorFR04
/- The region lemma of Sq with a relation besides: what an operation yields may be held against what its ancestors yielded. -/
section
namespace Go.SqR
open Go.RowKit Go.Own
section
variable {P : Program} {l : List Oper} {n N : Nat} {ps : List Nat} {Ext : World → World → Prop} {w0 : World} {Post : Nat → Value → World → Prop} {R : Nat → (Nat → Value) → Value → Prop}

/-- What operation j has yielded. -/
def slotV (l : List Oper) (a : Act) (j : Nat) : Value := match l[j]? with
  | some o => (match o.dst with | some d => a.tmps.getD d undef | none => undef)
  | none => undef
theorem slotV_at (F : SqF l n N) {a0 : Act} (hN : a0.tmps.size = N) (u : Nat → Value) {k j : Nat} (hk : k ≤ n) (hj : j < k) : slotV l (putAll l a0 u k) j = u j := by
  obtain ⟨o, d, ho, hd, _, _⟩ := F.dst j (by omega)
  unfold slotV
  simp only [ho, hd]
  exact slot_at F hN u hk hj ho hd
/-- The walk in the order of the text. -/
def SqW (P : Program) (l : List Oper) (ps : List Nat) (Ext : World → World → Prop) (w0 : World) (Post : Nat → Value → World → Prop) (R : Nat → (Nat → Value) → Value → Prop) (Fin : Act → Prop) : Nat → List Oper → Act → Prop
  | _, [], a => Fin a
  | k, o :: r, a =>
    if Region.wanted o (yielded l.toArray a.tmps) = true then
      if ps.contains k = true then
        (∀ w1, Ext w0 w1 → (∀ j d, ancB l k j = true → ps.contains j = true → (l[j]?).bind (·.dst) = some d → (∀ o', l[j]? = some o' → Region.wanted o' (yielded l.toArray a.tmps) = true) → Post j (a.tmps.getD d undef) w1) →
          Own.Yields P o a.eval w1 (fun v w' => (Post k v w' ∧ Ext w1 w') ∧ R k (slotV l a) v)) ∧
        (∀ v w, Post k v w → R k (slotV l a) v → SqW P l ps Ext w0 Post R Fin (k + 1) r (a.put o.dst v))
      else ∃ v, (∀ w1, Ext w0 w1 → (execOp a.eval o).run P w1 = .ok (.value v) w1) ∧ SqW P l ps Ext w0 Post R Fin (k + 1) r (a.put o.dst v)
    else SqW P l ps Ext w0 Post R Fin (k + 1) r (a.put o.dst undef)

/-- One step of the walk is right for value x. -/
def Cons1 (P : Program) (l : List Oper) (ps : List Nat) (Ext : World → World → Prop) (w0 : World) (Post : Nat → Value → World → Prop) (R : Nat → (Nat → Value) → Value → Prop) (k : Nat) (A : Act) (x : Value) : Prop :=
  ∀ o, l[k]? = some o → (Region.wanted o (yielded l.toArray A.tmps) = true → (ps.contains k = true → (∃ w, Post k x w) ∧ R k (slotV l A) x) ∧ (ps.contains k = false → ∀ w1, Ext w0 w1 → (execOp A.eval o).run P w1 = .ok (.value x) w1)) ∧
    (Region.wanted o (yielded l.toArray A.tmps) = false → x = undef)

theorem Cons1.move (F : SqF l n N) (hR : ∀ k ρ ρ' v, (∀ j, ancB l k j = true → ρ j = ρ' j) → R k ρ v → R k ρ' v) {a0 : Act} (hN : a0.tmps.size = N) {u u' : Nat → Value} {k : Nat} (hk : k < n) (hanc : ∀ j, ancB l k j = true → u j = u' j) {x : Value}
    (h : Cons1 P l ps Ext w0 Post R k (putAll l a0 u k) x) : Cons1 P l ps Ext w0 Post R k (putAll l a0 u' k) x := by
  intro o ho
  have hag := agree_walk F hN (a0 := a0) hk (Nat.le_refl _) (Nat.le_of_lt hk) (Nat.le_refl _) (Nat.le_of_lt hk) ho hanc
  have h1 := wanted_same (ops := l.toArray) (by rw [putAll_size, putAll_size]) hag
  have h2 := exec_same (ops := l.toArray) (fun cs b => F.sel k o cs b ho) hag
  have h3 := h o ho
  rw [h1, h2] at h3
  refine ⟨fun hw => ⟨fun hp => ⟨((h3.1 hw).1 hp).1, hR k _ _ _ (fun j hj => ?_) ((h3.1 hw).1 hp).2⟩, (h3.1 hw).2⟩, h3.2⟩
  rw [slotV_at F hN u (Nat.le_of_lt hk) (ancB_lt hj), slotV_at F hN u' (Nat.le_of_lt hk) (ancB_lt hj)]
  exact hanc j hj

/-- Along right values the walk goes on. -/
theorem sqw_along (hrefl : ∀ w, Ext w w) {Fin : Act → Prop} {a0 : Act} {u : Nat → Value} (h0 : SqW P l ps Ext w0 Post R Fin 0 (l.take n) a0) (hn : n ≤ l.length) : ∀ k, k ≤ n → (∀ j, j < k → Cons1 P l ps Ext w0 Post R j (putAll l a0 u j) (u j)) →
    SqW P l ps Ext w0 Post R Fin k ((l.take n).drop k) (putAll l a0 u k)
  | 0, _, _ => by simpa [putAll] using h0
  | k + 1, hk, hc => by
    have ih := sqw_along hrefl (u := u) h0 hn k (by omega) fun j hj => hc j (by omega)
    have hlt : k < (l.take n).length := by simp; omega
    have hlt2 : k < l.length := by omega
    have ho : l[k]? = some l[k] := by simp [hlt2]
    have he : (l.take n)[k] = l[k] := by simp
    rw [List.drop_eq_getElem_cons hlt, he] at ih
    have hcons := hc k (by omega) _ ho
    rw [putAll]
    simp only [ho, Option.bind_some]
    unfold SqW at ih
    by_cases hw : Region.wanted l[k] (yielded l.toArray (putAll l a0 u k).tmps) = true
    · rw [if_pos hw] at ih
      by_cases hp : ps.contains k = true
      · rw [if_pos hp] at ih
        obtain ⟨⟨w, hx⟩, hr⟩ := (hcons.1 hw).1 hp
        exact ih.2 _ w hx hr
      · rw [if_neg hp] at ih
        obtain ⟨v, hv, hnext⟩ := ih
        have h1 := hv w0 (hrefl _)
        have h2 := (hcons.1 hw).2 (by simpa using hp) w0 (hrefl _)
        rw [h1] at h2
        injection h2 with h3 _
        injection h3 with h4
        rw [← h4]; exact hnext
    · rw [if_neg hw] at ih
      rw [hcons.2 (by simpa using hw)]; exact ih

/-- What holds once the operations of L have come up with the values val, in the world w. -/
structure SqI (P : Program) (l : List Oper) (n : Nat) (ps : List Nat) (Ext : World → World → Prop) (w0 : World) (Post : Nat → Value → World → Prop) (R : Nat → (Nat → Value) → Value → Prop) (a0 : Act) (L : Nat → Prop) (val : Nat → Value) (w : World) : Prop where
  ext : Ext w0 w
  below : ∀ j, L j → j < n
  closed : ∀ m o, L m → l[m]? = some o → ∀ j, waitsB o j = true → L j
  cons : ∀ u, (∀ j, L j → u j = val j) → ∀ j, L j → Cons1 P l ps Ext w0 Post R j (putAll l a0 u j) (val j)
  post : ∀ u, (∀ j, L j → u j = val j) → ∀ j, L j → ps.contains j = true → (∀ o, l[j]? = some o → Region.wanted o (yielded l.toArray (putAll l a0 u j).tmps) = true) → Post j (val j) w

theorem SqI.anc {a0 : Act} {L : Nat → Prop} {val : Nat → Value} {w : World} (I : SqI P l n ps Ext w0 Post R a0 L val w) {k j : Nat} (hk : L k) (h : ancB l k j = true) : L j :=
  anc_in L I.closed k j (fun o ho j hj => I.closed k o hk ho j hj) h

/-- The operations that have not come up yet, played through in the order of the text: values for all. -/
theorem SqI.sim (F : SqF l n N) (hrefl : ∀ w, Ext w w) (htrans : ∀ a b c, Ext a b → Ext b c → Ext a c) (stable : ∀ i v w w', Post i v w → Ext w w' → Post i v w') {Fin : Act → Prop} {a0 : Act} (hN : a0.tmps.size = N)
    (h0 : SqW P l ps Ext w0 Post R Fin 0 (l.take n) a0) (hn : n ≤ l.length) {L : Nat → Prop} {val : Nat → Value} {w : World} (I : SqI P l n ps Ext w0 Post R a0 L val w) :
    ∀ k, k ≤ n → ∃ u w', (∀ j, L j → u j = val j) ∧ Ext w0 w' ∧ (∀ j, j < k → Cons1 P l ps Ext w0 Post R j (putAll l a0 u j) (u j)) ∧
      (∀ j, j < n → (j < k ∨ L j) → ps.contains j = true → (∀ o, l[j]? = some o → Region.wanted o (yielded l.toArray (putAll l a0 u j).tmps) = true) → Post j (u j) w')
  | 0, _ => ⟨val, w, fun _ _ => rfl, I.ext, fun j hj => by omega, fun j _ hj hp hw => I.post val (fun _ _ => rfl) j (hj.resolve_left (by omega)) hp hw⟩
  | k + 1, hk => by
    obtain ⟨u, w', hL, hext, hc, hpost⟩ := SqI.sim F hrefl htrans stable hN h0 hn I k (by omega)
    by_cases hkL : L k
    · refine ⟨u, w', hL, hext, fun j hj => ?_, fun j hjn hj hp hw => hpost j hjn ?_ hp hw⟩
      · rcases Nat.lt_or_ge j k with h | h
        · exact hc j h
        · obtain rfl : j = k := by omega
          rw [hL j hkL]; exact I.cons u hL j hkL
      · rcases hj with h | h
        · rcases Nat.lt_or_ge j k with h' | h'
          · exact .inl h'
          · obtain rfl : j = k := by omega
            exact .inr hkL
        · exact .inr h
    · have hwalk := sqw_along hrefl (u := u) h0 hn k (by omega) hc
      have hlt : k < (l.take n).length := by simp; omega
      have hlt2 : k < l.length := by omega
      have ho : l[k]? = some l[k] := by simp [hlt2]
      have he : (l.take n)[k] = l[k] := by simp
      rw [List.drop_eq_getElem_cons hlt, he] at hwalk
      -- the value, the world behind it
      have key : ∃ x w2, Ext w' w2 ∧ Cons1 P l ps Ext w0 Post R k (putAll l a0 u k) x ∧ (ps.contains k = true → Region.wanted l[k] (yielded l.toArray (putAll l a0 u k).tmps) = true → Post k x w2) := by
        by_cases hw : Region.wanted l[k] (yielded l.toArray (putAll l a0 u k).tmps) = true
        · unfold SqW at hwalk
          rw [if_pos hw] at hwalk
          by_cases hp : ps.contains k = true
          · rw [if_pos hp] at hwalk
            have hy := hwalk.1 w' hext fun j d hj hpj hd hwj => by
              obtain ⟨oj, hoj, hdj⟩ := Option.bind_eq_some_iff.1 hd
              have hjk := ancB_lt hj
              rw [slot_at F hN u (by omega) hjk hoj hdj]
              refine hpost j (by omega) (.inl hjk) hpj fun o' ho' => ?_
              rw [← hwj o' ho']
              refine wanted_same (by rw [putAll_size, putAll_size]) ?_
              exact agree_walk F hN (u := u) (u' := u) (show j < n by omega) (Nat.le_refl _) (by omega) (Nat.le_of_lt hjk) (by omega) ho' fun _ _ => rfl
            obtain ⟨v, w2, ⟨hv, hev⟩, hr⟩ := hy.some
            refine ⟨v, w2, hev, fun o ho' => ?_, fun _ _ => hv⟩
            obtain rfl : o = l[k] := Option.some.inj (ho'.symm.trans ho)
            exact ⟨fun _ => ⟨fun _ => ⟨⟨w2, hv⟩, hr⟩, fun h => by rw [hp] at h; cases h⟩, fun h => by rw [hw] at h; cases h⟩
          · rw [if_neg hp] at hwalk
            obtain ⟨v, hv, _⟩ := hwalk
            refine ⟨v, w', hrefl _, fun o ho' => ?_, fun h => absurd h hp⟩
            obtain rfl : o = l[k] := Option.some.inj (ho'.symm.trans ho)
            exact ⟨fun _ => ⟨fun h => absurd h hp, fun _ => hv⟩, fun h => by rw [hw] at h; cases h⟩
        · refine ⟨undef, w', hrefl _, fun o ho' => ?_, fun _ h => absurd h hw⟩
          obtain rfl : o = l[k] := Option.some.inj (ho'.symm.trans ho)
          exact ⟨fun h => absurd h hw, fun _ => rfl⟩
      obtain ⟨x, w2, hext2, hcx, hpx⟩ := key
      let u' : Nat → Value := fun j => if j = k then x else u j
      have hu' : ∀ j, j ≠ k → u' j = u j := fun j hj => by simp [u', hj]
      have hux : u' k = x := by simp [u']
      have hA : ∀ j, j ≤ k → putAll l a0 u' j = putAll l a0 u j := fun j hj => putAll_congr l a0 j fun i hi => hu' i (by omega)
      refine ⟨u', w2, fun j hj => by rw [hu' j (fun h => hkL (h ▸ hj))]; exact hL j hj, htrans _ _ _ hext hext2, fun j hj => ?_, fun j hjn hj hp hw => ?_⟩
      · rw [hA j (by omega)]
        rcases Nat.lt_or_ge j k with h | h
        · rw [hu' j (by omega)]; exact hc j h
        · obtain rfl : j = k := by omega
          rw [hux]; exact hcx
      · by_cases hjk : j = k
        · subst hjk
          rw [hux]
          rw [hA j (Nat.le_refl _)] at hw
          exact hpx hp (hw _ ho)
        · rw [hu' j hjk]
          have hj' : j < k ∨ L j := hj.imp (by omega) id
          refine stable _ _ _ _ (hpost j hjn hj' hp fun o hoj => ?_) hext2
          rw [← hw o hoj]
          refine wanted_same (by rw [putAll_size, putAll_size]) ?_
          refine agree_walk F hN hjn (Nat.le_refl _) (Nat.le_of_lt hjn) (Nat.le_refl _) (Nat.le_of_lt hjn) hoj fun i hi => ?_
          rcases hj' with h | h
          · exact (hu' i (by have := ancB_lt hi; omega)).symm
          · exact (hu' i fun e => hkL (e ▸ I.anc h hi)).symm

theorem SqI.step (F : SqF l n N) (hR : ∀ k ρ ρ' v, (∀ j, ancB l k j = true → ρ j = ρ' j) → R k ρ v → R k ρ' v) (stable : ∀ i v w w', Post i v w → Ext w w' → Post i v w') (htrans : ∀ a b c, Ext a b → Ext b c → Ext a c) {a0 : Act} (hN : a0.tmps.size = N) {L L' : Nat → Prop} {val : Nat → Value} {w w2 : World} (I : SqI P l n ps Ext w0 Post R a0 L val w)
    {i : Nat} (hi : i < n) (hni : ¬ L i) (hdep : ∀ o, l[i]? = some o → ∀ j, waitsB o j = true → L j) {u : Nat → Value} (hu : ∀ j, L j → u j = val j) {x : Value} (hext : Ext w w2)
    (hcons : Cons1 P l ps Ext w0 Post R i (putAll l a0 u i) x) (hpost : ps.contains i = true → (∀ o, l[i]? = some o → Region.wanted o (yielded l.toArray (putAll l a0 u i).tmps) = true) → Post i x w2)
    (hL' : ∀ j, L' j ↔ L j ∨ j = i) : SqI P l n ps Ext w0 Post R a0 L' (fun j => if j = i then x else val j) w2 := by
  have hanc : ∀ j, ancB l i j = true → L j := fun j hj => anc_in L I.closed i j hdep hj
  have hag : ∀ u' : Nat → Value, (∀ j, L' j → u' j = if j = i then x else val j) → ∀ j, L j → u' j = val j := fun u' h j hj => by
    have hne : j ≠ i := fun e => hni (e ▸ hj)
    rw [h j ((hL' j).2 (.inl hj)), if_neg hne]
  refine ⟨htrans _ _ _ I.ext hext, fun j hj => ?_, fun m o hm ho j hj => ?_, fun u' hu' j hj => ?_, fun u' hu' j hj hp hw => ?_⟩
  · rcases (hL' j).1 hj with h | h
    · exact I.below j h
    · rw [h]; exact hi
  · refine (hL' j).2 (.inl ?_)
    rcases (hL' m).1 hm with h | h
    · exact I.closed m o h ho j hj
    · exact hdep o (h ▸ ho) j hj
  · by_cases hji : j = i
    · subst hji
      simp only [if_true]
      exact hcons.move F hR hN hi fun k hk => by rw [hu k (hanc k hk), hag u' hu' k (hanc k hk)]
    · simp only [if_neg hji]
      exact I.cons u' (hag u' hu') j (((hL' j).1 hj).resolve_right hji)
  · by_cases hji : j = i
    · subst hji
      simp only [if_true]
      refine hpost hp fun o ho => ?_
      rw [← hw o ho]
      refine wanted_same (by rw [putAll_size, putAll_size]) ?_
      exact agree_walk F hN hi (Nat.le_refl _) (Nat.le_of_lt hi) (Nat.le_refl _) (Nat.le_of_lt hi) ho fun k hk => by rw [hu k (hanc k hk), hag u' hu' k (hanc k hk)]
    · simp only [if_neg hji]
      exact stable _ _ _ _ (I.post u' (hag u' hu') j (((hL' j).1 hj).resolve_right hji) hp hw) hext

theorem sq_any (F : SqF l n N) (hR : ∀ k ρ ρ' v, (∀ j, ancB l k j = true → ρ j = ρ' j) → R k ρ v → R k ρ' v) (hrefl : ∀ w, Ext w w) (htrans : ∀ a b c, Ext a b → Ext b c → Ext a c) (stable : ∀ i v w w', Post i v w → Ext w w' → Post i v w') {Fin : Act → Prop} {a0 : Act} (hN : a0.tmps.size = N)
    (h0 : SqW P l ps Ext w0 Post R Fin 0 (l.take n) a0) (hn : n ≤ l.length) (he : edgesB l.toArray = true) (hq : n = l.length ∨ (Region.sinkB .any l.toArray n = true ∧ Region.chainB .any l.toArray n = true ∧ n < l.length)) {Q : Exit → Act → World → Prop} {g : Nat}
    (hend : ∀ listed a w val, listed.size = l.length → (∀ i, i < n → listed.getD i true = true) → (∀ t, n ≤ t → t < l.length → listed.getD t true = false) → SqI P l n ps Ext w0 Post R a0 (fun j => j < n) val w → SqFr l n a0 (fun j => j < n) val a → wpAny P .any l.toArray Q g listed a w)
    (f : Nat) : ∀ (listed : Array Bool) (a : Act) (w : World) (val : Nat → Value), HeadInv .any l.toArray n listed → SqI P l n ps Ext w0 Post R a0 (fun j => j < n ∧ listed.getD j false = true) val w →
      SqFr l n a0 (fun j => j < n ∧ listed.getD j false = true) val a → ((listed.toList.take n).count false = f) → wpAny P .any l.toArray Q (f + g) listed a w := by
  have hsize : l.toArray.size = l.length := by simp
  induction f with
  | zero =>
    intro listed a w val inv I fr hf
    rw [Nat.zero_add]
    have hall : ∀ i, i < n → listed.getD i true = true := fun i hi => by
      have hlt : i < listed.size := by rw [inv.size, hsize]; omega
      have h0 := List.count_eq_zero.1 hf
      have h1 : listed[i] ∈ listed.toList.take n := by
        rw [List.mem_take_iff_getElem]
        exact ⟨i, by simp; omega, by simp⟩
      cases hb : listed[i] with
      | true => simp [hlt, hb]
      | false => rw [hb] at h1; exact absurd h1 h0
    have hL : (fun j => j < n ∧ listed.getD j false = true) = (fun j => j < n) := by
      funext j
      exact propext ⟨fun h => h.1, fun h => ⟨h, getD_both' (hall j h) (by rw [inv.size, hsize]; omega)⟩⟩
    rw [hL] at I fr
    exact hend listed a w val (by rw [inv.size, hsize]) hall (fun t h1 h2 => inv.tail t h1 (by rw [hsize]; exact h2)) I fr
  | succ f ih =>
    intro listed a w val inv I fr hf
    have hex : ∃ i, i < n ∧ listed.getD i true = false := by
      have : false ∈ listed.toList.take n := List.count_pos_iff.1 (by omega)
      rw [List.mem_take_iff_getElem] at this
      obtain ⟨i, hi, hb⟩ := this
      simp only [Array.length_toList] at hi
      exact ⟨i, by omega, by simp [show i < listed.size by omega]; simpa using hb⟩
    obtain ⟨i0, hi0, hun0⟩ := hex
    have hne : Region.ready .any l.toArray listed ≠ [] := by
      have key : ∀ m, m < n → listed.getD m true = false → ∃ k, k ≤ m ∧ listed.getD k true = false ∧ ∀ j, j < k → listed.getD j true = true := by
        intro m
        induction m using Nat.strongRecOn with
        | _ m ihm =>
          intro hm hu
          by_cases hx : ∃ j, j < m ∧ listed.getD j true = false
          · obtain ⟨j, hj, hju⟩ := hx
            obtain ⟨k, hk, h⟩ := ihm j hj (by omega) hju
            exact ⟨k, by omega, h⟩
          · exact ⟨m, Nat.le_refl _, hu, fun j hj => by
              cases hb : listed.getD j true with
              | true => rfl
              | false => exact absurd ⟨j, hj, hb⟩ hx⟩
      obtain ⟨k, hk, hu, hl⟩ := key i0 hi0 hun0
      exact List.ne_nil_of_mem (ready_least he inv.size (by rw [hsize]; omega) hu hl)
    rw [Nat.add_right_comm]
    refine ⟨fun h0 => absurd h0 hne, fun i hi => ?_⟩
    obtain ⟨hun, o, ho', hall⟩ := mem_ready.1 hi
    have ho : l[i]? = some o := by simpa using ho'
    have hil : i < l.length := (List.getElem?_eq_some_iff.1 ho).1
    have hin : i < n := by
      rcases hq with h | ⟨hs, hc, hn'⟩
      · omega
      · exact (Nat.lt_or_ge i n).resolve_right fun h => absurd hi (tail_waits hs hc (by rw [hsize]; exact hn') inv _ i0 rfl hi0 hun0 i h)
    have hni : ¬ (i < n ∧ listed.getD i false = true) := fun h => by
      have := getD_both hun
      rw [h.2] at this; cases this
    have hdep : ∀ o', l[i]? = some o' → ∀ j, waitsB o' j = true → j < n ∧ listed.getD j false = true := fun o' hoo j hj => by
      obtain rfl : o = o' := Option.some.inj (ho.symm.trans hoo)
      have hji := F.edges i o ho j hj
      obtain ⟨e, hem, hb⟩ := Array.any_eq_true'.1 hj
      simp only [Bool.and_eq_true, beq_iff_eq] at hb
      have := hall e hem hb.1
      rw [hb.2] at this
      exact ⟨by omega, this⟩
    obtain ⟨u, _, hu, _, hcons, _⟩ := I.sim F hrefl htrans stable hN h0 hn n (Nat.le_refl _)
    have hwalk := sqw_along hrefl (u := u) h0 hn i (by omega) fun j hj => hcons j (by omega)
    have hlt : i < (l.take n).length := by simp; omega
    have hoi : l[i] = o := by
      have := List.getElem?_eq_getElem hil
      rw [ho] at this; exact (Option.some.inj this).symm
    have hgi : (l.take n)[i] = o := by rw [← hoi]; simp
    rw [List.drop_eq_getElem_cons hlt, hgi] at hwalk
    have hanc : ∀ j, ancB l i j = true → j < n ∧ listed.getD j false = true := fun j hj => anc_in _ I.closed i j hdep hj
    have hag := agree_at (b := a) (u := u) F hN hin (Nat.le_refl _) (Nat.le_of_lt hin) ho fr.other fun j hj oj d hoj hd => by
      rw [fr.slot j oj d (hanc j hj) hoj hd, hu j (hanc j hj)]
    have hwant := wanted_same (ops := l.toArray) (o := o) (by rw [fr.size, putAll_size]) hag
    have hexec := exec_same (ops := l.toArray) (fun cs b => F.sel i o cs b ho) hag
    obtain ⟨oi, d, hoi', hdst, hdN, huniq⟩ := F.dst i hin
    obtain rfl : o = oi := Option.some.inj (ho.symm.trans hoi')
    have hL' : ∀ j, (j < n ∧ (listed.setIfInBounds i true).getD j false = true) ↔ (j < n ∧ listed.getD j false = true) ∨ j = i := fun j => by
      by_cases hji : j = i
      · subst hji
        have hlt : j < listed.size := by rw [inv.size, hsize]; omega
        simp [hlt, hin]
      · rw [getD_set_ne false (Ne.symm hji)]
        simp [hji]
    -- what is left once the value and the world are known
    have go : ∀ x w2, Ext w w2 → Cons1 P l ps Ext w0 Post R i (putAll l a0 u i) x → (ps.contains i = true → Region.wanted o (yielded l.toArray (putAll l a0 u i).tmps) = true → Post i x w2) →
        wpAny P .any l.toArray Q (f + g) (listed.setIfInBounds i true) (a.put o.dst x) w2 := fun x w2 hext hcx hpx => by
      have hi' := I.step F hR stable htrans hN hin hni hdep hu hext hcx (fun hp hw => hpx hp (hw o ho)) hL'
      refine ih _ _ _ _ (inv.set hi hin) hi' ⟨?_, ?_, ?_, ?_⟩ ?_
      · rw [put_size]; exact fr.size
      · rw [put_defers]; exact fr.defers
      · intro t ht
        rw [← fr.other t ht, hdst]
        by_cases htl : t < a.tmps.size
        · rw [put_getD _ _ _ _ htl, if_neg (fun h => ht i o hin ho (by rw [hdst, h]))]
        · simp [Act.put, show ¬ t < a.tmps.size from htl]
      · intro j oj dj hj hoj hdj
        rw [hdst]
        by_cases hji : j = i
        · subst hji
          obtain rfl : oj = o := Option.some.inj (hoj.symm.trans ho)
          obtain rfl : dj = d := Option.some.inj (hdj.symm.trans hdst)
          rw [put_getD _ _ _ _ (by rw [fr.size, hN]; exact hdN), if_pos rfl]
          simp
        · have hne : dj ≠ d := fun h => huniq j oj hj.1 hoj (Ne.symm hji) (by rw [hdj, h])
          have h1 := fr.slot j oj dj (((hL' j).1 hj).resolve_right hji) hoj hdj
          simp only [if_neg hji]
          rw [← h1]
          by_cases htl : dj < a.tmps.size
          · rw [put_getD _ _ _ _ htl, if_neg (Ne.symm hne)]
          · simp [Act.put, show ¬ dj < a.tmps.size from htl]
      · have hlt : i < listed.size := by rw [inv.size, hsize]; omega
        have h1 : (listed.toList.take n)[i]? = some false := by
          rw [List.getElem?_take_of_lt hin]
          simp only [Array.getElem?_toList]
          simp [hlt] at hun ⊢
          exact hun
        have h2 := count_set_true _ _ h1
        rw [Array.toList_setIfInBounds, List.take_set]
        omega
    unfold wpOp
    simp only [ho']
    unfold SqW at hwalk
    by_cases hw : Region.wanted o (yielded l.toArray (putAll l a0 u i).tmps) = true
    · rw [if_pos (by rw [hwant]; exact hw)]
      rw [if_pos hw] at hwalk
      left
      by_cases hp : ps.contains i = true
      · rw [if_pos hp] at hwalk
        have hy := hwalk.1 w I.ext fun j d' hj hpj hd hwj => by
          obtain ⟨oj, hoj, hdj⟩ := Option.bind_eq_some_iff.1 hd
          have hji := ancB_lt hj
          rw [slot_at F hN u (Nat.le_of_lt hin) hji hoj hdj, hu j (hanc j hj)]
          refine I.post u hu j (hanc j hj) hpj fun o' ho' => ?_
          rw [← hwj o' ho']
          refine wanted_same (by rw [putAll_size, putAll_size]) ?_
          exact agree_walk F hN (u := u) (u' := u) (show j < n by omega) (Nat.le_refl _) (by omega) (Nat.le_of_lt hji) (by omega) ho' fun _ _ => rfl
        have hy' : Own.Yields P o a.eval w (fun v w' => (Post i v w' ∧ Ext w w') ∧ R i (slotV l (putAll l a0 u i)) v) := by
          unfold Own.Yields at hy ⊢; rw [hexec]; exact hy
        refine wp_of_yields hy' fun v w' ⟨⟨hv, hev⟩, hr⟩ => go v w' hev (fun o' ho'' => ?_) fun _ _ => hv
        obtain rfl : o' = o := Option.some.inj (ho''.symm.trans ho)
        exact ⟨fun _ => ⟨fun _ => ⟨⟨w', hv⟩, hr⟩, fun h => by rw [hp] at h; cases h⟩, fun h => by rw [hw] at h; cases h⟩
      · rw [if_neg hp] at hwalk
        obtain ⟨v, hv, _⟩ := hwalk
        have hr : (execOp a.eval o).run P w = .ok (.value v) w := by rw [hexec]; exact hv w I.ext
        unfold Oper.wp
        rw [hr]
        refine go v w (hrefl _) (fun o' ho'' => ?_) fun h => absurd h hp
        obtain rfl : o' = o := Option.some.inj (ho''.symm.trans ho)
        exact ⟨fun _ => ⟨fun h => absurd h hp, fun _ => hv⟩, fun h => by rw [hw] at h; cases h⟩
    · rw [if_neg (by rw [hwant]; exact hw)]
      refine go undef w (hrefl _) (fun o' ho'' => ?_) fun _ h => absurd h hw
      obtain rfl : o' = o := Option.some.inj (ho''.symm.trans ho)
      exact ⟨fun h => absurd h hw, fun _ => rfl⟩

/-- A region that draws its order: the head, n operations, is walked in the order of the text, each operation in some world that grew out of the first one; then the tail. -/
theorem wp_region_sq {id : Nat} {Q : Exit → Act → World → Prop} {a : Act} {w : World} (n : Nat) (ps : List Nat) (Ext : World → World → Prop) (Post : Nat → Value → World → Prop) (R : Nat → (Nat → Value) → Value → Prop) (hR : ∀ k ρ ρ' v, (∀ j, ancB l k j = true → ρ j = ρ' j) → R k ρ v → R k ρ' v) (hm : P.follows .mixedOrders = true) (hB : sqB l n a.tmps.size ps = true)
    (hrefl : ∀ w, Ext w w) (htrans : ∀ a b c, Ext a b → Ext b c → Ext a c) (stable : ∀ i v w w', Post i v w → Ext w w' → Post i v w')
    (h : SqW P l ps Ext w.drew Post R (fun a' => ∀ w', Ext w.drew w' → (∀ j d, j < n → ps.contains j = true → (l[j]?).bind (·.dst) = some d → (∀ o', l[j]? = some o' → Region.wanted o' (yielded l.toArray a'.tmps) = true) → Post j (a'.tmps.getD d undef) w') →
      wpList P l.toArray Q (l.drop n) a' w') 0 (l.take n) a) : (Code.region id l.toArray true).wp P Q a w := by
  simp only [sqB, Bool.and_eq_true, Bool.or_eq_true, decide_eq_true_eq, beq_iff_eq] at hB
  obtain ⟨⟨⟨⟨⟨hsel, he⟩, hd⟩, hl⟩, _⟩, hq⟩ := hB
  have F := sqF_of hsel he hd hl
  have hn : n ≤ l.length := by rcases hq with h | h <;> omega
  have hq' : n = l.length ∨ (Region.sinkB .any l.toArray n = true ∧ Region.chainB .any l.toArray n = true ∧ n < l.length) := hq.imp (fun h => h) fun h => ⟨h.1.1.1, h.1.1.2, h.1.2⟩
  have hseq : Region.seqB .any l.toArray (l.length - n) n ((List.replicate n true ++ List.replicate (l.length - n) false).toArray) = true := by
    rcases hq with h | h
    · subst h
      rw [Nat.sub_self]
      simp only [Region.seqB, List.isEmpty_iff, List.replicate_zero, List.append_nil]
      unfold Region.ready
      rw [List.filter_eq_nil_iff]
      intro i hi
      have hi' : i < l.length := by simpa using hi
      simp [hi']
    · exact h.2
  have inv0 : HeadInv .any l.toArray n (Array.replicate l.toArray.size false) :=
    ⟨by simp, fun j oj _ hl => (by rw [getD_replicate_false] at hl; cases hl), fun t _ h' => getD_in (by simpa using h') (getD_replicate_false _ _)⟩
  have hno : ∀ j, ¬ (j < n ∧ (Array.replicate l.toArray.size false).getD j false = true) := fun j hj => by have := hj.2; rw [getD_replicate_false] at this; cases this
  refine wp_region_any hm ?_
  have H := sq_any (Q := Q) (g := l.length - n) F hR hrefl htrans stable rfl h hn he hq' (fun listed a1 w1 val hsz h1 h2 I fr => ?_) n (Array.replicate l.toArray.size false) a w.drew (fun _ => undef) inv0
    ⟨hrefl _, fun j hj => absurd hj (hno j), fun m o hm => absurd hm (hno m), fun u _ j hj => absurd hj (hno j), fun u _ j hj => absurd hj (hno j)⟩
    ⟨rfl, rfl, fun _ _ => rfl, fun j o d hj => absurd hj (hno j)⟩ (by simp; omega)
  · rw [show n + (l.length - n) = l.toArray.size by simp; omega] at H
    exact H
  · have hlisted : listed = (List.replicate n true ++ List.replicate (l.length - n) false).toArray := by
      apply Array.ext
      · simp [hsz]; omega
      · intro i hi1 hi2
        by_cases hin : i < n
        · have := h1 i hin
          simp only [Array.getD_eq_getD_getElem?, Array.getElem?_eq_getElem hi1, Option.getD_some] at this
          rw [this]
          simp [hin]
        · have := h2 i (by omega) (by omega)
          simp only [Array.getD_eq_getD_getElem?, Array.getElem?_eq_getElem hi1, Option.getD_some] at this
          rw [this]
          simp [List.getElem_append, hin]
    have hfin := sqw_along hrefl (u := val) h hn n (Nat.le_refl _) fun j hj => I.cons val (fun _ _ => rfl) j hj
    have hnil : (l.take n).drop n = [] := List.drop_of_length_le (by simp; omega)
    rw [hnil] at hfin
    unfold SqW at hfin
    have ha1 : a1 = putAll l a val n := by
      have ht : a1.tmps = (putAll l a val n).tmps := by
        refine getD_ext (by rw [putAll_size, fr.size]) fun t ht => ?_
        by_cases hx : ∃ i o, i < n ∧ l[i]? = some o ∧ o.dst = some t
        · obtain ⟨i, o, hi, ho, hot⟩ := hx
          rw [slot_at F rfl val (Nat.le_refl _) hi ho hot, fr.slot i o t hi ho hot]
        · have hno : ∀ i o, i < n → l[i]? = some o → o.dst ≠ some t := fun i o hi ho hot => hx ⟨i, o, hi, ho, hot⟩
          rw [slot_other val hno]
          exact fr.other t hno
      have hdf : a1.defers = (putAll l a val n).defers := by rw [putAll_defers, fr.defers]
      cases a1
      cases hp : putAll l a val n
      rw [hp] at ht hdf
      simp only at ht hdf
      rw [ht, hdf]
    have hw := hfin w1 I.ext fun j d hj hp hdj hwj => by
      obtain ⟨oj, hoj, hdj'⟩ := Option.bind_eq_some_iff.1 hdj
      rw [slot_at F rfl val (Nat.le_refl _) hj hoj hdj']
      refine I.post val (fun _ _ => rfl) j hj hp fun o' ho' => ?_
      rw [← hwj o' ho']
      refine wanted_same (by rw [putAll_size, putAll_size]) ?_
      exact agree_walk F rfl (u := val) (u' := val) hj (Nat.le_refl _) (Nat.le_of_lt hj) (Nat.le_of_lt hj) (Nat.le_refl _) ho' fun _ _ => rfl
    rw [← ha1] at hw
    have := wpAny_of_seq (md := .any) (Q' := Q) (l.drop n) n listed a1 w1 (fun j => by simp [List.getElem?_drop]) (by rw [List.length_drop, hlisted]; exact hseq) hw
    rwa [List.length_drop] at this
end
section
variable {P : Program} {l : List Oper} {ps : List Nat} {Ext : World → World → Prop} {w0 : World} {Post : Nat → Value → World → Prop} {R : Nat → (Nat → Value) → Value → Prop} {Fin : Act → Prop} {k : Nat} {o : Oper} {r : List Oper} {a : Act}
theorem sqw_nil (h : Fin a) : SqW P l ps Ext w0 Post R Fin k [] a := h
theorem sqw_quiet (hp : plainOp o.op = true) (hps : ps.contains k = false) (_hrefl : Ext w0 w0)
    (h : wpQuiet P l.toArray (fun w' => ∃ s : Grown Ext w0, w' = s.w) (fun a' => SqW P l ps Ext w0 Post R Fin (k + 1) r a') [o] a) : SqW P l ps Ext w0 Post R Fin k (o :: r) a := by
  unfold SqW
  unfold wpQuiet at h
  by_cases hw : Region.wanted o (yielded l.toArray a.tmps) = true
  · rw [if_pos hw] at h ⊢
    rw [if_neg (by rw [hps]; exact Bool.false_ne_true)]
    obtain ⟨v, hv, hn⟩ := h
    exact ⟨v, fun w1 h1 => quietAt_plain hp (hv w1 ⟨⟨w1, h1⟩, rfl⟩), hn⟩
  · rw [if_neg hw] at h ⊢
    exact h
theorem sqw_postY {d : Tmp} (hd : o.dst = some d) (hps : ps.contains k = true) (hw : Region.wanted o (yielded l.toArray a.tmps) = true)
    (hop : ∀ w1, Ext w0 w1 → Facts l ps Post k a w1 → Own.Yields P o a.eval w1 (fun v w' => (Post k v w' ∧ Ext w1 w') ∧ R k (slotV l a) v))
    (hnext : ∀ v w, Post k v w → R k (slotV l a) v → SqW P l ps Ext w0 Post R Fin (k + 1) r (a.put (some d) v)) : SqW P l ps Ext w0 Post R Fin k (o :: r) a := by
  unfold SqW
  rw [if_pos hw, if_pos hps]
  exact ⟨hop, fun v w hv hr => by rw [hd]; exact hnext v w hv hr⟩
theorem wp_region_sqB {id : Nat} {Q : Exit → Act → World → Prop} {a : Act} {w : World} (n : Nat) (ps : List Nat) (Post : Nat → Value → World → Prop) (R : Nat → (Nat → Value) → Value → Prop) (hR : ∀ k ρ ρ' v, (∀ j, ancB l k j = true → ρ j = ρ' j) → R k ρ v → R k ρ' v) (hm : P.follows .mixedOrders = true) (hB : sqB l n a.tmps.size ps = true)
    (stable : ∀ i v w w', Post i v w → ExtB w w' → Post i v w')
    (h : SqW P l ps ExtB w.drew Post R (fun a' => ∀ w', ExtB w.drew w' → FactsEnd l ps Post n a' w' → wpList P l.toArray Q (l.drop n) a' w') 0 (l.take n) a) : (Code.region id l.toArray true).wp P Q a w :=
  wp_region_sq n ps ExtB Post R hR hm hB ExtB.refl ExtB.trans stable h
end
end Go.SqR
end
/- The region lemmas of Sq and Sp over all operations of a region. -/
section
namespace Go.Own
open Go.RowKit
section
variable {P : Program} {l : List Oper} {ps : List Nat}
theorem wp_region_sqA {id : Nat} {Q : Exit → Act → World → Prop} {a : Act} {w : World} (n : Nat) (ps : List Nat) (Post : Nat → Value → World → Prop) (hm : P.follows .mixedOrders = true) (hn : l.length = n) (hB : sqB l n a.tmps.size ps = true)
    (stable : ∀ i v w w', Post i v w → ExtB w w' → Post i v w')
    (h : SqW P l ps ExtB w.drew Post (fun a' => ∀ w', ExtB w.drew w' → FactsEnd l ps Post n a' w' → Q .normal a' w') 0 l a) : (Code.region id l.toArray true).wp P Q a w := by
  subst hn
  refine wp_region_sqB l.length ps Post hm hB stable ?_
  rw [List.take_length, List.drop_length]
  exact h
theorem wp_region_spA {id : Nat} {Q : Exit → Act → World → Prop} {a : Act} {w : World} (n : Nat) (ps : List Nat) (Post : Nat → Value → World → Prop) (hn : l.length = n) (hB : spB l n a.tmps.size = true)
    (stable : ∀ i v w w', Post i v w → ExtB w w' → Post i v w')
    (h : SqW P l ps ExtB w Post (fun a' => ∀ w', ExtB w w' → FactsEnd l ps Post n a' w' → Q .normal a' w') 0 l a) : (Code.region id l.toArray false).wp P Q a w := by
  subst hn
  refine wp_region_spB l.length ps Post hB stable ?_
  rw [List.take_length, List.drop_length]
  exact h
/-- What is stable, case by case: the facts of the posted operations alone. -/
theorem stable_of {Post : Nat → Value → World → Prop} (h : ∀ i v w w', Post i v w → ExtB w w' → Post i v w') : ∀ i v w w', Post i v w → ExtB w w' → Post i v w' := h
end
end Go.Own
end
