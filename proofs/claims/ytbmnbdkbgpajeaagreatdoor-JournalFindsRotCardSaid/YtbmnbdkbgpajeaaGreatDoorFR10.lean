/- The journal in plain Lean: a record during which the power fails is whole or not there (Survives). No program. -/
import Derived.Test.YtbmnbdkbgpajeaaGreatDoorFR09
import Derived.Lib.QuoteBits
import Derived.Test.YtbmnbdkbgpajeaaGreatDoorFR06
import Derived.Test.YtbmnbdkbgpajeaaGreatDoorFR08
/- The journal in plain Lean: a record during which the power fails is whole or not there (Survives). No program. -/
section
namespace Go.Jn
open Go.Disk Go.Sha Go.Own
theorem cont_quiet {x : Sec} (h : x.p = none) : cont x = x.t := by unfold cont; rw [h]; rfl
theorem tail_bad {B : List Sec} (hz : ∀ x ∈ B, x.t = Disk.zeros ∧ x.p = none) : ∀ y ∈ B.map (fun x => unpack (cont x)), y.ok = false ∨ y.k ≠ 0 := fun y hy => by
  obtain ⟨x, hx, rfl⟩ := List.mem_map.1 hy
  obtain ⟨a, b⟩ := hz x hx
  left
  rw [cont_quiet b, a]; exact unpack_zeros
/-- a whole new record is found -/
theorem region_full {j : JS} {A T B : List Sec} {x : List UInt8} (hsc : ∀ r, scanL (A.map (fun x => unpack (cont x)) ++ r) [] = scanL r j.rs) (hnum : ∀ z ∈ j.rs, z.1 < j.next) (_hn : 1 ≤ j.next) (_hn2 : j.next ≤ 4096) (hx : x.length ≤ 8000)
    (hT : T.map (fun x => unpack (cont x)) = parts j.next x) (hz : ∀ x ∈ B, x.t = Disk.zeros ∧ x.p = none) : (found ((A ++ (T ++ B)).map cont)).rs = j.rs ++ [(j.next, x)] := by
  rw [found_rs, List.map_map, List.map_append, List.map_append]
  have e : ∀ l : List Sec, List.map (unpack ∘ cont) l = l.map (fun x => unpack (cont x)) := fun _ => rfl
  rw [e, e, e, hsc, hT, scanL_parts hx _ _ (fun z hz => Nat.ne_of_lt (hnum z hz))]
  have := scanL_bads _ (j.rs ++ [(j.next, x)]) [] (tail_bad hz)
  rw [List.append_nil] at this
  exact this
theorem region_part {j : JS} {A T B : List Sec} {x : List UInt8} (hsc : ∀ r, scanL (A.map (fun x => unpack (cont x)) ++ r) [] = scanL r j.rs) (hx : x.length ≤ 8000) (hl : T.length = cntN x.length)
    (hT : ∀ i (hi : i < T.length), (unpack (cont T[i])).ok = false ∨ unpack (cont T[i]) = ⟨j.next, i, x.length - 48 * i, (x.drop (48 * i)).take 48, true⟩) (hb : ∃ i, ∃ hi : i < T.length, (unpack (cont T[i])).ok = false)
    (hz : ∀ x ∈ B, x.t = Disk.zeros ∧ x.p = none) : (found ((A ++ (T ++ B)).map cont)).rs = j.rs := by
  rw [found_rs, List.map_map, List.map_append, List.map_append]
  have e : ∀ l : List Sec, List.map (unpack ∘ cont) l = l.map (fun x => unpack (cont x)) := fun _ => rfl
  rw [e, e, e, hsc]
  have hml : (T.map fun x => unpack (cont x)).length = cntN x.length := by rw [List.length_map, hl]
  rw [scanL_broken (n := j.next) hx hml (fun i hi => by
    rw [List.getElem_map]
    exact hT i (by rw [List.length_map] at hi; exact hi)) (by
    obtain ⟨i, hi, h⟩ := hb
    exact ⟨i, by rw [List.length_map]; exact hi, by rw [List.getElem_map]; exact h⟩)]
  have := scanL_bads _ j.rs [] (tail_bad hz)
  rw [List.append_nil] at this
  exact this
theorem settle_torn {x : Sec} {b : List UInt8} {p : Int} (hw : x.w = false) (ht : x.t = Disk.zeros) : settle1 p { x with p := some b } = { t := b.take (clamp p) ++ Disk.zeros.drop (clamp p), p := none, w := false } := by
  unfold settle1
  simp [hw, ht]
theorem clamp_le (p : Int) : clamp p ≤ 64 := by unfold clamp; omega
theorem genB_at {img ts : List (List UInt8)} (h : genB img ts = true) {s : List UInt8} (hs : s ∈ img) (hg : goodB s = true) : numOf s ≤ ts.length ∧ (ts.getD (numOf s - 1) []).length ≤ 8000 ∧ (pack (numOf s) (ts.getD (numOf s - 1) []))[prtOf s]? = some s := by
  unfold genB at h
  have := (List.all_eq_true.1 h) s hs
  rw [hg] at this
  simpa using this
/-- the torn sectors of a new record -/
theorem region_torn {d : DS} {j : JS} {A B T B2 : List Sec} {x : List UInt8} (h : Inv2 d j A B) (hm : j.rs.length ≤ 12) (hx : x.length ≤ 8000) (hn2 : j.next ≤ 4096) (hl : T.length = cntN x.length)
    (hq : ∀ y ∈ T, y.p = none) (hT : ∀ i (hi : i < T.length), ∃ p, p ≤ 64 ∧ T[i].t = (sect j.next x i).take p ++ Disk.zeros.drop p) (hz : ∀ x ∈ B2, x.t = Disk.zeros ∧ x.p = none)
    (hgen : genB ((A ++ (T ++ B2)).map (·.t)) (texts j ++ [x]) = true) :
    (found ((A ++ (T ++ B2)).map cont)).rs = j.rs ++ [(j.next, x)] ∨ (found ((A ++ (T ++ B2)).map cont)).rs = j.rs := by
  have htl : (texts j).length = j.rs.length := by unfold texts; rw [List.length_map]
  have hts : (texts j ++ [x]).getD j.rs.length [] = x := by
    rw [List.getD_eq_getElem?_getD, List.getElem?_append_right (by omega), htl, Nat.sub_self]; rfl
  have key : ∀ i (hi : i < T.length), (unpack (cont T[i])).ok = false ∨ unpack (cont T[i]) = ⟨j.next, i, x.length - 48 * i, (x.drop (48 * i)).take 48, true⟩ := fun i hi => by
    rw [cont_quiet (hq _ (List.getElem_mem hi))]
    cases hg : goodB T[i].t with
    | false => left; rw [unpack_ok, hg]
    | true =>
      right
      obtain ⟨p, hp, e⟩ := hT i hi
      have hs : T[i].t = sect j.next x i := torn_good (by have := h.next; omega) h.inv.next hx (by rw [← hl]; exact hi) e hp hg fun hn => by
        have := (genB_at hgen (s := T[i].t) (List.mem_map_of_mem (List.mem_append_right _ (List.mem_append_left _ (List.getElem_mem hi)))) hg).2.2
        rw [hn, h.next, Nat.add_sub_cancel, hts, ← h.next] at this
        exact this
      rw [hs]
      exact unpack_sect h.inv.next hn2 hx (by rw [← hl]; exact hi)
  by_cases hb : ∃ i, ∃ hi : i < T.length, (unpack (cont T[i])).ok = false
  · exact .inr (region_part h.inv.scan hx hl key hb hz)
  · refine .inl (region_full h.inv.scan h.inv.nums h.inv.next hn2 hx ?_ hz)
    apply List.ext_getElem (by rw [List.length_map, hl, parts_length])
    intro i h1 h2
    have hi : i < T.length := by rw [List.length_map] at h1; exact h1
    rw [List.getElem_map]
    rcases key i hi with h3 | h3
    · exact absurd ⟨i, hi, h3⟩ hb
    · rw [h3]
      have e := parts_getD (n := j.next) (t := x) (k := i) (by rw [← hl]; exact hi) []
      rw [List.append_nil, List.getD_eq_getElem?_getD, List.getElem?_eq_getElem h2, Option.getD_some] at e
      exact e.symm
/-- a record during which the power may fail -/
theorem survives {d : DS} {j : JS} {A B : List Sec} (h : Inv2 d j A B) (hm : j.rs.length ≤ 12) (n : Int) (x : List UInt8) (ps : List Int) :
    (amount (aappend (atrip d n) j x).2.2.2 ps).off = false ∧
    (genB ((amount (aappend (atrip d n) j x).2.2.2 ps).s.map (·.t)) (texts j ++ [x]) = true →
      ((found ((amount (aappend (atrip d n) j x).2.2.2 ps).s.map cont)).rs = j.rs ++ [(j.next, x)] ∨
        ((aappend (atrip d n) j x).2.1 ≠ 0 ∧ (found ((amount (aappend (atrip d n) j x).2.2.2 ps).s.map cont)).rs = j.rs))) := by
  refine ⟨rfl, ?_⟩
  have hi := h.inv
  have hB0 : quiet B := fun x hx => (hi.zb x hx).2
  have same : ∀ d' : DS, d'.s = A ++ B → (found ((amount d' ps).s.map cont)).rs = j.rs := fun d' hd' => by
    have e : (amount d' ps).s = A ++ B := by
      show settleTo ps (apend d'.s) d'.s = _
      rw [settleTo_sall, hd', sall_quiet _ _ _ hi.qa, sall_quiet' hB0]
    rw [e, ← hi.sec]; exact hi.found
  obtain ⟨d1, hd1⟩ : ∃ d1, d1 = atrip d n := ⟨_, rfl⟩
  have hs1 : d1.s = A ++ B := by rw [hd1]; exact hi.sec
  have ho1 : d1.off = false := by rw [hd1]; exact hi.off
  rw [← hd1]
  have hd : aappend d1 j x = aappend d1 j x := rfl
  conv at hd => rhs; unfold aappend
  rw [hi.closed, if_neg Bool.false_ne_true] at hd
  by_cases h1 : 8000 < x.length ∨ 4096 < j.next
  · rw [if_pos h1] at hd
    rw [hd]
    exact fun _ => .inr ⟨by simp, same d1 hs1⟩
  · rw [if_neg h1] at hd
    have ht : x.length ≤ 8000 := by omega
    have hn2 : j.next ≤ 4096 := by omega
    have hlen : d1.s.length = A.length + B.length := by rw [hs1, List.length_append]
    by_cases h2 : room d1 j < cntN x.length
    · rw [if_pos h2] at hd
      rw [hd]
      exact fun _ => .inr ⟨by simp, same d1 hs1⟩
    · rw [if_neg h2] at hd
      have hcB : cntN x.length ≤ B.length := by unfold room at h2; have := hi.fin; omega
      have hpl := pack_length j.next x
      have h64 := pack_64 j.next x
      have hpg := fun k (hk : k < (pack j.next x).length) => pack_get hk
      obtain ⟨l, hl⟩ : ∃ l, l = pack j.next x := ⟨_, rfl⟩
      rw [← hl] at hpl h64 hd
      have hlg : ∀ k (hk : k < l.length), l[k] = sect j.next x k := fun k hk => by subst hl; exact pack_get hk
      have hB : B = B.take (cntN x.length) ++ B.drop (cntN x.length) := (List.take_append_drop _ _).symm
      have hB1 : (B.take (cntN x.length)).length = l.length := by rw [List.length_take, hpl]; omega
      have hz1 : ∀ y ∈ B.take (cntN x.length), y.t = Disk.zeros ∧ y.p = none := fun y hy => hi.zb y (List.mem_of_mem_take hy)
      have hz2 : ∀ y ∈ B.drop (cntN x.length), y.t = Disk.zeros ∧ y.p = none := fun y hy => hi.zb y (List.mem_of_mem_drop hy)
      have hw1 : ∀ y ∈ B.take (cntN x.length), y.w = false := fun y hy => h.nw y (by rw [hi.sec]; exact List.mem_append_right _ (List.mem_of_mem_take hy))
      have hs2 : d1.s = A ++ (B.take (cntN x.length) ++ B.drop (cntN x.length)) := by rw [← hB]; exact hs1
      generalize B.take (cntN x.length) = B1 at *
      generalize B.drop (cntN x.length) = B2 at *
      have q1 : quiet B1 := fun y hy => (hz1 y hy).2
      have q2 : quiet B2 := fun y hy => (hz2 y hy).2
      have htl : ∀ ps' l', (torn ps' B1 l').length = cntN x.length := fun ps' l' => by rw [torn_length, hB1, hpl]
      have hta : ∀ (ps' : List Int) (q : Nat) i (hi' : i < B1.length), ∃ p, p ≤ 64 ∧ (torn ps' B1 (l.take q))[i]'(by rw [torn_length]; exact hi') = { t := (sect j.next x i).take p ++ Disk.zeros.drop p, p := none, w := false } := fun ps' q i hi' => by
        obtain ⟨a, b⟩ := hz1 _ (List.getElem_mem hi')
        have c := hw1 _ (List.getElem_mem hi')
        rw [torn_at ps' B1 (l.take q) i hi']
        by_cases hq : i < (l.take q).length
        · rw [dif_pos hq, settle_torn c a]
          refine ⟨clamp (ps'.getD i 64), clamp_le _, ?_⟩
          rw [List.getElem_take, hlg i (by omega)]
        · rw [dif_neg hq]
          refine ⟨0, Nat.zero_le _, ?_⟩
          cases hx : B1[i] with
          | mk t p w =>
            rw [hx] at a b c
            dsimp only at a b c
            subst a b c
            rfl
      have fail : ∀ (d' : DS) (q : Nat), d'.s = A ++ (wr B1 (l.take q) ++ B2) → genB ((amount d' ps).s.map (·.t)) (texts j ++ [x]) = true →
          (found ((amount d' ps).s.map cont)).rs = j.rs ++ [(j.next, x)] ∨ (found ((amount d' ps).s.map cont)).rs = j.rs := fun d' q hd' hgen => by
        have e : (amount d' ps).s = A ++ (torn ps B1 (l.take q) ++ B2) := by rw [amount_wr hd' hi.qa q1 q2 ps]
        rw [e] at hgen ⊢
        refine region_torn h hm ht hn2 (htl _ _) (fun y hy => ?_) (fun i hi' => ?_) hz2 hgen
        · obtain ⟨i, hi', rfl⟩ := List.getElem_of_mem hy
          obtain ⟨p, _, e⟩ := hta ps q i (by rw [torn_length] at hi'; exact hi')
          rw [e]
        · obtain ⟨p, hp, e⟩ := hta ps q i (by rw [torn_length] at hi'; exact hi')
          exact ⟨p, hp, by rw [e]⟩
      obtain ⟨q, _, w2, w3⟩ := awrites_gen l d1 A B1 B2 hs2 hB1 h64 ho1
      rw [hi.fin] at w2 w3
      obtain ⟨d2, hd2⟩ : ∃ d2, d2 = (awrites d1 j.fin l).2 := ⟨_, rfl⟩
      dsimp only at hd
      rcases w3 with ⟨w3, w4, w5, _⟩ | ⟨w3, w5, _⟩
      · rw [if_neg (by rw [w3]; simp)] at hd
        subst w4
        rw [← hd2] at w2 w5 hd
        rcases aflush_wr (l := l) (by rw [w2, List.take_length]) hi.qa q1 q2 w5 with ⟨f1, f2, f3, _⟩ | ⟨f1, f2, _, _⟩
        · rw [if_neg (by rw [f1]; simp)] at hd
          obtain ⟨d3, hd3⟩ : ∃ d3, d3 = (aflush d2).2 := ⟨_, rfl⟩
          rw [← hd3] at f2 f3 hd
          have hr := areads_all l d3 A (torn [] B1 l) B2 true f2 (by rw [torn_length, hB1]) f3
          have hsame : l = (torn [] B1 l).map cont := by
            apply List.ext_getElem (by rw [List.length_map, htl, hpl])
            intro i h1 h2
            have hi' : i < B1.length := by omega
            rw [List.getElem_map, torn_full (by omega) h64 hz1 hi', hw1 _ (List.getElem_mem hi')]
            rfl
          rw [hi.fin, Bool.true_and, decide_eq_true hsame] at hr
          rw [hr] at hd
          dsimp only at hd
          rw [if_neg (by simp), if_pos rfl] at hd
          rw [hd]
          dsimp only
          intro _
          left
          have qt : quiet (torn [] B1 l) := fun y hy => by
            obtain ⟨i, hi', rfl⟩ := List.getElem_of_mem hy
            rw [torn_full (by omega) h64 hz1 (by rw [torn_length] at hi'; exact hi')]
          have e : (amount d3 ps).s = A ++ (torn [] B1 l ++ B2) := by
            show settleTo ps (apend d3.s) d3.s = _
            rw [settleTo_sall, f2, sall_quiet _ _ _ hi.qa, sall_quiet _ _ _ qt, sall_quiet' q2]
          rw [e]
          refine region_full hi.scan hi.nums hi.next hn2 ht ?_ hz2
          rw [← parts_pack hi.next hn2 ht, ← hl]
          conv => rhs; rw [hsame]
          rw [List.map_map]; rfl
        · rw [if_pos (by rw [f1]; decide)] at hd
          rw [hd]
          dsimp only
          intro hgen
          rcases fail _ l.length (by rw [f2, w2]) hgen with h3 | h3
          · exact .inl h3
          · exact .inr ⟨by rw [f1]; decide, h3⟩
      · rw [if_pos (by rw [w3]; decide)] at hd
        rw [hd]
        dsimp only
        intro hgen
        rcases fail _ q w2 hgen with h3 | h3
        · exact .inl h3
        · exact .inr ⟨by rw [w3]; decide, h3⟩
end Go.Jn
end
/- The journal in plain Lean: the forms in which the code asks whether a sector is good; what is found, sector by sector. No program. -/
section
namespace Go.Jn
open Go.Disk Go.Sha Go.Own
theorem stamp_iff {s : List UInt8} (_h : s.length = 64) : stamp (s.take 56) = s ↔ (sha (s.take 56)).take 8 = s.drop 56 := by
  unfold stamp
  constructor
  · intro e
    have h2 : (s.take 56 ++ (sha (s.take 56)).take 8) = s.take 56 ++ s.drop 56 := by rw [List.take_append_drop]; exact e
    exact List.append_cancel_left h2
  · intro e; rw [e, List.take_append_drop]
theorem zeros_iff {s : List UInt8} {n : Nat} (h : s.length = n) : s.all (· == 0) = decide (s = List.replicate n 0) := by
  rw [Bool.eq_iff_iff, List.all_eq_true, decide_eq_true_eq]
  constructor
  · intro h2
    rw [List.eq_replicate_iff]
    exact ⟨h, fun x hx => by simpa using h2 x hx⟩
  · intro h2 x hx
    rw [h2] at hx
    rw [List.eq_of_mem_replicate hx]; rfl
/-- the test as the program makes it -/
theorem goodB_prog {s : List UInt8} (h : s.length = 64) : goodB s = (decide ((sha (s.take 56)).take 8 = s.drop 56) && !decide (numOf s = 0) && !decide (4096 < numOf s) && !decide (8000 < 48 * prtOf s + leftOf s) && !(decide (leftOf s = 0) && decide (0 < prtOf s)) &&
    decide ((s.take 56).drop (8 + min (leftOf s) 48) = List.replicate (48 - min (leftOf s) 48) 0)) := by
  unfold goodB
  have e1 : ((s.take 56).drop (8 + min (leftOf s) 48)).length = 48 - min (leftOf s) 48 := by rw [List.length_drop, List.length_take]; omega
  rw [zeros_iff e1, decide_eq_true h, Bool.true_and]
  have e2 : decide (stamp (s.take 56) = s) = decide ((sha (s.take 56)).take 8 = s.drop 56) := by rw [decide_eq_decide]; exact stamp_iff h
  have e3 : (decide (1 ≤ numOf s)) = !decide (numOf s = 0) := by by_cases h1 : numOf s = 0 <;> simp [h1]; omega
  have e4 : (decide (numOf s ≤ 4096)) = !decide (4096 < numOf s) := by by_cases h1 : numOf s ≤ 4096 <;> simp [h1]; omega
  have e5 : (decide (48 * prtOf s + leftOf s ≤ 8000)) = !decide (8000 < 48 * prtOf s + leftOf s) := by by_cases h1 : 48 * prtOf s + leftOf s ≤ 8000 <;> simp [h1]; omega
  rw [e2, e3, e4, e5]
/-- the test as the reference makes it: a number from 1 to 4096, nothing but zeros behind what is left -/
theorem goodB_ref {s : List UInt8} (h : s.length = 64) : goodB s = (decide (stamp (s.take 56) = s) && !decide (numOf s < 1) && !decide (4096 < numOf s) && !decide (8000 < 48 * prtOf s + leftOf s) && !(decide (leftOf s < 1) && decide (0 < prtOf s)) &&
    ((s.take 56).drop (8 + min (leftOf s) 48)).all (· == 0)) := by
  unfold goodB
  rw [decide_eq_true h, Bool.true_and]
  have e3 : (decide (1 ≤ numOf s)) = !decide (numOf s < 1) := by by_cases h1 : numOf s < 1 <;> simp [h1]; omega
  have e4 : (decide (numOf s ≤ 4096)) = !decide (4096 < numOf s) := by by_cases h1 : numOf s ≤ 4096 <;> simp [h1]; omega
  have e5 : (decide (48 * prtOf s + leftOf s ≤ 8000)) = !decide (8000 < 48 * prtOf s + leftOf s) := by by_cases h1 : 48 * prtOf s + leftOf s ≤ 8000 <;> simp [h1]; omega
  have e6 : decide (leftOf s = 0) = decide (leftOf s < 1) := by rw [decide_eq_decide]; omega
  rw [e3, e4, e5, e6]
theorem unpack_short {s : List UInt8} (h : s.length ≠ 64) : unpack s = prt0 := by
  unfold unpack
  rw [if_neg]
  intro hg
  exact h (good_parts hg).1
theorem blank_zeros {s : List UInt8} (h : s.length = 64) : blank s = decide (s = Disk.zeros) := zeros_iff h
/-- what is found among the first sectors -/
def badK (l : List (List UInt8)) (i : Nat) : List Nat := (List.range i).filter fun i => !(unpack (l.getD i [])).ok && !blank (l.getD i [])
def nextK (l : List (List UInt8)) (i : Nat) : Nat := (l.take i).foldl (fun m s => max m ((unpack s).n + 1)) 1
def finK (l : List (List UInt8)) (i : Nat) : Nat := (List.range i).foldl (fun m i => if blank (l.getD i []) then m else i + 1) 0
theorem badK_succ {l : List (List UInt8)} {i : Nat} (h : i < l.length) : badK l (i + 1) = badK l i ++ if (unpack l[i]).ok = false ∧ blank l[i] = false then [i] else [] := by
  unfold badK
  rw [List.range_succ, List.filter_append]
  congr 1
  have e : l.getD i [] = l[i] := by rw [List.getD_eq_getElem?_getD, List.getElem?_eq_getElem h]; rfl
  rw [List.filter_cons, e]
  cases (unpack l[i]).ok <;> cases blank l[i] <;> simp
theorem nextK_succ {l : List (List UInt8)} {i : Nat} (h : i < l.length) : nextK l (i + 1) = max (nextK l i) ((unpack l[i]).n + 1) := by
  unfold nextK
  rw [List.take_succ_eq_append_getElem h, List.foldl_append]; rfl
theorem finK_succ {l : List (List UInt8)} {i : Nat} (h : i < l.length) : finK l (i + 1) = if blank l[i] then finK l i else i + 1 := by
  unfold finK
  rw [List.range_succ, List.foldl_append]
  have e : l.getD i [] = l[i] := by rw [List.getD_eq_getElem?_getD, List.getElem?_eq_getElem h]; rfl
  rw [List.foldl_cons, e]; rfl
theorem nextK_le (l : List (List UInt8)) (i : Nat) : 1 ≤ nextK l i ∧ nextK l i ≤ 4097 := by
  unfold nextK
  generalize l.take i = k
  have : ∀ (k : List (List UInt8)) (m : Nat), 1 ≤ m → m ≤ 4097 → 1 ≤ k.foldl (fun m s => max m ((unpack s).n + 1)) m ∧ k.foldl (fun m s => max m ((unpack s).n + 1)) m ≤ 4097 := fun k => by
    induction k with
    | nil => intro m h1 h2; exact ⟨h1, h2⟩
    | cons s k ih => intro m h1 h2; rw [List.foldl_cons]; have := unpack_n s; exact ih _ (by omega) (by omega)
  exact this k 1 (by omega) (by omega)
theorem finK_le (l : List (List UInt8)) : ∀ i, finK l i ≤ i
  | 0 => Nat.le_refl _
  | i + 1 => by
    unfold finK
    rw [List.range_succ, List.foldl_append, List.foldl_cons, List.foldl_nil]
    have := finK_le l i
    unfold finK at this
    split <;> omega
theorem found_eq (l : List (List UInt8)) : found l = ⟨scanL (l.map unpack) [], badK l l.length, nextK l l.length, finK l l.length, false⟩ := by
  have h := found_rs l
  unfold badK nextK finK
  rw [List.take_length, ← h]
  rfl
end Go.Jn
end
/- Words of 64 bits with a sign, as sets: and, or, andNot at numbers that are not negative; laws at any word. -/
section
namespace Go.Ib
open Go.Lib
abbrev B (z : Int) : BitVec 64 := BitVec.ofInt 64 z
theorem B_nat (a : Nat) (h : a < 18446744073709551616) : (B (a : Int)).toNat = a := ofInt_u64 a h
theorem b_and (a b : Nat) (ha : a < 9223372036854775808) (hb : b < 9223372036854775808) : bits .and .i64 (a : Int) (b : Int) = ((a &&& b : Nat) : Int) := by
  show IntKind.i64.wrap ((BitVec.ofInt 64 (a : Int) &&& BitVec.ofInt 64 (b : Int)).toNat : Int) = _
  rw [BitVec.toNat_and, ofInt_u64 a (by omega), ofInt_u64 b (by omega)]
  exact wrap_i64_small _ (Nat.lt_of_le_of_lt Nat.and_le_left ha)
theorem b_or (a b : Nat) (ha : a < 9223372036854775808) (hb : b < 9223372036854775808) : bits .or .i64 (a : Int) (b : Int) = ((a ||| b : Nat) : Int) := by
  show IntKind.i64.wrap ((BitVec.ofInt 64 (a : Int) ||| BitVec.ofInt 64 (b : Int)).toNat : Int) = _
  rw [BitVec.toNat_or, ofInt_u64 a (by omega), ofInt_u64 b (by omega)]
  exact wrap_i64_small _ (Nat.or_lt_two_pow (n := 63) ha hb)
/-- the numbers of a that are not in b -/
def diff (a b : Nat) : Nat := a &&& (18446744073709551615 ^^^ b)
theorem diff_bit (a b k : Nat) (ha : a < 9223372036854775808) : (diff a b).testBit k = (a.testBit k && !b.testBit k) := by
  unfold diff
  rw [Nat.testBit_and, Nat.testBit_xor]
  by_cases hk : k < 64
  · rw [show (18446744073709551615 : Nat) = 2 ^ 64 - 1 from rfl, Nat.testBit_two_pow_sub_one]; simp [hk]
  · rw [Nat.testBit_lt_two_pow (i := k) (x := a) (Nat.lt_of_lt_of_le ha (by rw [show (9223372036854775808 : Nat) = 2 ^ 63 from rfl]; exact Nat.pow_le_pow_right (by omega) (by omega)))]; simp
theorem diff_le (a b : Nat) : diff a b ≤ a := Nat.and_le_left
theorem b_andNot (a b : Nat) (ha : a < 9223372036854775808) (hb : b < 9223372036854775808) : bits .andNot .i64 (a : Int) (b : Int) = ((diff a b : Nat) : Int) := by
  show IntKind.i64.wrap ((BitVec.ofInt 64 (a : Int) &&& ~~~BitVec.ofInt 64 (b : Int)).toNat : Int) = _
  have e : (BitVec.ofInt 64 (a : Int) &&& ~~~BitVec.ofInt 64 (b : Int)).toNat = diff a b := by
    rw [← BitVec.xor_allOnes, BitVec.toNat_and, BitVec.toNat_xor, ofInt_u64 a (by omega), ofInt_u64 b (by omega), Nat.xor_comm]
    rfl
  rw [e]
  exact wrap_i64_small _ (Nat.lt_of_le_of_lt (diff_le a b) ha)
/-- a word's bits at any operands -/
theorem B_wrap (x : BitVec 64) : B (IntKind.i64.wrap (x.toNat : Int)) = x := by
  apply BitVec.eq_of_toInt_eq
  rw [BitVec.toInt_ofInt]
  have h := x.isLt
  simp only [IntKind.wrap, IntKind.bits, IntKind.signed, BitVec.toInt_eq_toNat_cond, Int.bmod]
  simp
  split <;> split <;> split <;> omega
theorem B_and (a b : Int) : B (bits .and .i64 a b) = B a &&& B b := B_wrap _
theorem B_or (a b : Int) : B (bits .or .i64 a b) = B a ||| B b := B_wrap _
theorem B_andNot (a b : Int) : B (bits .andNot .i64 a b) = B a &&& ~~~B b := B_wrap _
theorem B_inj {a b : Int} (ha : -9223372036854775808 ≤ a ∧ a ≤ 9223372036854775807) (hb : -9223372036854775808 ≤ b ∧ b ≤ 9223372036854775807) (h : B a = B b) : a = b := by
  have h2 := congrArg BitVec.toInt h
  rw [BitVec.toInt_ofInt, BitVec.toInt_ofInt, Int.bmod_eq_of_le (by omega) (by omega), Int.bmod_eq_of_le (by omega) (by omega)] at h2
  exact h2
theorem sub_iff (p s : BitVec 64) : (p &&& ~~~s = 0#64) ↔ (p ||| s = s) := by
  constructor
  · intro h
    apply BitVec.eq_of_getLsbD_eq
    intro i hi
    have := congrArg (fun x => x.getLsbD i) h
    simp [hi] at this ⊢
    intro hp; exact this hp
  · intro h
    apply BitVec.eq_of_getLsbD_eq
    intro i hi
    have := congrArg (fun x => x.getLsbD i) h
    simp [hi] at this ⊢
    intro hp; exact this hp
end Go.Ib
end
/- journal: Count on both sides; put. -/
section
namespace Go.Jn
open Go.RowKit Go.Own
theorem le_snoc : ∀ (i n : Nat), le (i + 1) n = le i n ++ [UInt8.ofNat (n / 256 ^ i)]
  | 0, n => by simp [le]
  | i + 1, n => by
    have h := le_snoc i (n / 256)
    rw [le, h, le, List.cons_append, Nat.div_div_eq_div_mul, show 256 * 256 ^ i = 256 ^ (i + 1) by rw [Nat.pow_succ, Nat.mul_comm]]
/-- some bytes of a row are overwritten -/
def mix (l : List Value) (off : Nat) (bs : List UInt8) : List Value := l.take off ++ bs.map byv ++ l.drop (off + bs.length)
theorem mix_nil (l : List Value) (off : Nat) : mix l off [] = l := by simp [mix]
theorem mix_len {l : List Value} {off : Nat} {bs : List UInt8} (h : off + bs.length ≤ l.length) : (mix l off bs).length = l.length := by
  unfold mix
  simp only [List.length_append, List.length_take, List.length_map, List.length_drop]
  omega
theorem mix_set {l : List Value} {off : Nat} {bs : List UInt8} (b : UInt8) (h : off + bs.length < l.length) : (mix l off bs).set (off + bs.length) (byv b) = mix l off (bs ++ [b]) := by
  unfold mix
  have h1 : (l.take off ++ bs.map byv).length = off + bs.length := by simp; omega
  rw [List.set_append_right _ _ (by omega), h1, Nat.sub_self, List.drop_eq_getElem_cons h, List.set_cons_zero]
  simp [Nat.add_assoc]
theorem cntI_nat (n : Nat) : cntI (n : Int) = (cntN n : Int) := by unfold cntI; rw [if_neg (by omega), Int.toNat_natCast]
theorem ofNat_byte (m : Nat) : IntKind.u8.wrap (m : Int) = ((UInt8.ofNat m).toNat : Int) := by
  rw [UInt8.toNat_ofNat']
  simp [IntKind.wrap, IntKind.signed, IntKind.bits]
end Go.Jn
namespace Go.Proofs.YtbmnbdkbgpajeaaGreatDoor
open Go.RowKit Go.Own Go.Jn Go.Disk
def jInt : Value → Int | .int _ q => q | _ => 0
theorem count_any (n : Int) (w : World) : Calls Tryz.prog 16 #[.int .i64 n] w fun e w' => e = .returned (.int .i64 (cntI n)) ∧ w' = w := by
  by_cases h0 : n < 0
  · have e : cntI n = 0 := by unfold cntI; rw [if_pos h0]
    have HE := Lib.hid e; clear e
    have d0 : decide (n < 0) = true := decide_eq_true h0
    go_enter Tryz.func16, Tryz.ntmps16
    go_wp2
    go_ret
    exact ⟨ret_of (by rw [HE.out]; rfl), rfl⟩
  · have d0 : decide (n < 0) = false := decide_eq_false h0
    have d1 : 0 ≤ n := by omega
    by_cases h1 : 8000 < n
    · have e : cntI n = 0 := by unfold cntI cntN; rw [if_neg h0, if_pos (by omega)]; rfl
      have HE := Lib.hid e; clear e
      have d2 : decide (8000 < n) = true := decide_eq_true h1
      go_enter Tryz.func16, Tryz.ntmps16
      go_wp2
      go_ret
      exact ⟨ret_of (by rw [HE.out]; rfl), rfl⟩
    · have d2 : decide (8000 < n) = false := decide_eq_false h1
      have e : cntI n = max 1 ((n + 47) / 48) := by
        unfold cntI cntN; rw [if_neg h0, if_neg (by omega)]
        split <;> omega
      have HE := Lib.hid e; clear e
      have h2 : n ≤ 8000 := by omega
      go_enter Tryz.func16, Tryz.ntmps16
      go_wp2
      all_goals
        go_ret
        refine ⟨ret_of ?_, rfl⟩
        rw [HE.out]
        exact congrArg (Value.int .i64) (by omega)
theorem rcount_any (n : Int) (w : World) : Calls Tryz.prog 56 #[.int .i64 n] w fun e w' => e = .returned (.int .i64 (cntI n)) ∧ w' = w := by
  by_cases h0 : n < 0
  · have e : cntI n = 0 := by unfold cntI; rw [if_pos h0]
    have HE := Lib.hid e; clear e
    have d0 : decide (n < 0) = true := decide_eq_true h0
    go_enter Tryz.func56, Tryz.ntmps56
    go_wp2
    go_ret
    exact ⟨ret_of (by rw [HE.out]; rfl), rfl⟩
  · have d0 : decide (n < 0) = false := decide_eq_false h0
    have d1 : 0 ≤ n := by omega
    by_cases h1 : 8000 < n
    · have e : cntI n = 0 := by unfold cntI cntN; rw [if_neg h0, if_pos (by omega)]; rfl
      have HE := Lib.hid e; clear e
      have d2 : decide (8000 < n) = true := decide_eq_true h1
      go_enter Tryz.func56, Tryz.ntmps56
      go_wp2
      go_ret
      exact ⟨ret_of (by rw [HE.out]; rfl), rfl⟩
    · have d2 : decide (8000 < n) = false := decide_eq_false h1
      have h2 : n ≤ 8000 := by omega
      by_cases h3 : n = 0
      · subst h3
        have e : cntI 0 = 1 := rfl
        have HE := Lib.hid e; clear e
        go_enter Tryz.func56, Tryz.ntmps56
        go_wp2
        go_ret
        exact ⟨ret_of (by rw [HE.out]; rfl), rfl⟩
      · have e : cntI n = (n + 47) / 48 := by
          unfold cntI cntN; rw [if_neg h0, if_neg (by omega), if_neg (by omega)]
          omega
        have HE := Lib.hid e; clear e
        have d3 : (n == 0) = false := by rw [beq_eq_false_iff_ne]; exact h3
        go_enter Tryz.func56, Tryz.ntmps56
        go_wp2
        go_ret
        refine ⟨ret_of ?_, rfl⟩
        rw [HE.out]
        exact congrArg (Value.int .i64) (by omega)
set_option maxHeartbeats 800000 in
theorem put_any (n k g off cap : Nat) (l : List Value) (t : TypeId) (w : World) (hB : Blk w g l t) (hn : n < 9223372036854775808) (hfit : off + k ≤ l.length) (hcap : k ≤ cap ∧ cap ≤ 1000) :
    Calls Tryz.prog 91 #[.slice (some ⟨g, off, none⟩) k cap, .int .i64 n] w fun e w' => e = .returned (.tuple #[]) ∧ Blk w' g (mix l off (le k n)) t ∧ Chg [g] w w' := by
  go_enter Tryz.func91, Tryz.ntmps91
  go_wp2
  go_loopw [1, 7] (fun c d wr => ∃ i m : Nat, i ≤ k ∧ d = .int .i64 i ∧ c = .int .i64 m ∧ m < 9223372036854775808 ∧ Hid (m = n / 256 ^ i) ∧ Blk wr g (mix l off (le i n)) t ∧ Chg [g] w wr) (fun _ d _ => k - (jInt d).toNat)
  case atStart => exact ⟨0, n, Nat.zero_le _, rfl, rfl, hn, Lib.hid (by simp), by rw [show le 0 n = [] from rfl, mix_nil]; exact hB, Chg.refl _ _⟩
  case round =>
    obtain ⟨i, m, hi, rfl, rfl, hm, HM, h1, h2⟩ := hrel
    by_cases hlt : i < k
    · have hil : (i : Int) < k := by omega
      have hf := h1.frozen (off + i)
      have hlen : (mix l off (le i n)).length = l.length := mix_len (by rw [le_length]; omega)
      have hc0 := h1.cellD (i := off + i) undef (by rw [hlen]; omega)
      have hw8 := ofNat_byte m
      have h3 := h1.set (off + i) (byv (UInt8.ofNat m))
      have HS : Hid ((mix l off (le i n)).set (off + i) (byv (UInt8.ofNat m)) = mix l off (le (i + 1) n)) := Lib.hid (by
        have := mix_set (l := l) (off := off) (bs := le i n) (UInt8.ofNat m) (by rw [le_length]; omega)
        rw [le_length] at this
        rw [this, HM.out, le_snoc])
      have H3 := Lib.hid h3; clear h3
      clear hlen
      go_wp2
      go_roundw
      case rel =>
        refine ⟨i + 1, m / 256, by omega, by go_num, by first | rfl | go_num | simp, by omega, Lib.hid (by rw [HM.out, Nat.div_div_eq_div_mul, Nat.pow_succ]), ?_, h2.set _ (by simp)⟩
        rw [← HS.out]; exact H3.out
      case measure => simp [jInt]; omega
    · obtain rfl : i = k := by omega
      go_wp2
      refine bodyPost_end (results_none rfl _ _ _) rfl ?_
      exact ⟨rfl, h1, h2⟩
end Go.Proofs.YtbmnbdkbgpajeaaGreatDoor
end
