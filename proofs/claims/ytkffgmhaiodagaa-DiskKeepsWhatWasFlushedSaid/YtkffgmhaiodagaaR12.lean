/- The walk over DiskMatchesSpec. -/
import Derived.Test.YtkffgmhaiodagaaR11
namespace Go.Proofs.Ytkffgmhaiodagaa
open Go.RowKit Go.Own Go.Disk Go.BigFrame
attribute [local go_sem] setCell_twice str_size op_str_eql op_str_neq
/-- An operation as it lies in memory: with the slice of its picks. -/
structure Opm where
  o : Disk.Op
  sp : Option Addr
  pc : Nat
def opcells (x : Opm) : List Value := [.int .i64 x.o.kind, .int .i64 x.o.i, .int .i64 x.o.bit, str x.o.text, .slice x.sp x.o.picks.length x.pc]
/-- A script in memory. -/
structure ScrAt (w : World) (v : Value) (l : List Opm) : Prop where
  sl : Sl w 5 v l.length (l.flatMap opcells)
  pk : ∀ x ∈ l, x.o.picks ≠ [] → Sl w 1 (.slice x.sp x.o.picks.length x.pc) x.o.picks.length (x.o.picks.map fun z => .int .i64 z)
  rng : ∀ x ∈ l, -9223372036854775808 ≤ x.o.i ∧ x.o.i ≤ 9223372036854775807
theorem ScrAt.below {w w' : World} {v : Value} {l : List Opm} (h : ScrAt w v l) (hb : Below w.heap.size w w') : ScrAt w' v l :=
  ⟨h.sl.below hb, fun x hx hne => (h.pk x hx hne).below hb, h.rng⟩
theorem opcells_length (l : List Opm) : (l.flatMap opcells).length = l.length * 5 := by
  induction l with
  | nil => rfl
  | cons x s ih => rw [List.flatMap_cons, List.length_append, ih]; simp [opcells]; omega
theorem opcells_at (l : List Opm) (k : Nat) (x : Opm) (hx : l[k]? = some x) : ((l.flatMap opcells).drop (k * 5)).take 5 = opcells x := by
  induction l generalizing k with
  | nil => simp at hx
  | cons y s ih =>
    have h5 : (opcells y).length = 5 := rfl
    cases k with
    | zero =>
      obtain rfl : y = x := by simpa using hx
      rw [List.flatMap_cons, Nat.zero_mul, List.drop_zero, ← h5, List.take_left]
    | succ k =>
      have := ih k (by simpa using hx)
      rw [List.flatMap_cons, show (k + 1) * 5 = (opcells y).length + k * 5 by rw [h5]; omega, List.drop_length_add_append]
      exact this
theorem ScrAt.cells {w : World} {v : Value} {l : List Opm} (h : ScrAt w v l) {k : Nat} {x : Opm} (hx : l[k]? = some x) : ∃ b off cap, v = .slice (some ⟨b, off, none⟩) l.length cap ∧ Cells w b (off + k * 5) (opcells x) ∧ b < w.heap.size := by
  have hk : k < l.length := (List.getElem?_eq_some_iff.1 hx).1
  obtain ⟨_, ⟨_, h0⟩ | ⟨b, off, cap, rfl, _, _, hC, hlt⟩⟩ := h.sl
  · omega
  · refine ⟨b, off, cap, rfl, ?_, hlt⟩
    have := hC.sub (k * 5) 5
    rw [opcells_at l k x hx] at this
    exact this
theorem ScrAt.pkown {w w0 : World} {v : Value} {l : List Opm} (h : ScrAt w v l) {x : Opm} (hx : x ∈ l) {F : List Nat} (hF : ∀ y ∈ F, w.heap.size ≤ y) (hne : x.o.picks ≠ []) : ∀ b, (Value.slice x.sp x.o.picks.length x.pc).ownBlock = some b → b ∉ F := by
  intro b hb hy
  have h1 := hF b hy
  obtain ⟨_, ⟨h2, _⟩ | ⟨b', off, cap, h2, _, _, _, h3⟩⟩ := h.pk x hx hne
  · rw [h2] at hb; cases hb
  · rw [h2] at hb
    have : b' = b := by simpa [Value.ownBlock] using hb
    omega
theorem Both.step {w0 w w1 w2 : World} {f : Ft} {r : Rt} {d d' : DS} (h : Both w0 w f r d) (hp : PD w1 f d') (hc : Chg f.all w w1) (hr : RD w1 r d → RD w2 r d' ∧ Chg r.all w1 w2) : Both w0 w2 f r d' := by
  have r1 := h.rd.chg hc fun x hx hy => h.dis x hy hx
  obtain ⟨r2, c2⟩ := hr r1
  have b1 := h.below.trans (hc.below h.below.size h.fo)
  exact ⟨hp.chg c2 fun x hx hy => h.dis x hx hy, r2, h.fo, h.ro, h.dis, b1.trans (c2.below b1.size h.ro)⟩
/-- The two disks of a script play one operation. -/
theorem Both.opfacts {w0 w : World} {f : Ft} {r : Rt} {d : DS} {l : List Opm} {sa : Option Addr} {cap : Nat} (hB : Both w0 w f r d) (hs : ScrAt w0 (.slice sa l.length cap) l) {k : Nat} {x : Opm} (hx : l[k]? = some x) :
    ∃ b off, sa = some ⟨b, off, none⟩ ∧ Cells w b (off + k * 5) (opcells x) ∧ b < w.heap.size ∧ b < w0.heap.size ∧ (x.o.picks ≠ [] → Sl w 1 (.slice x.sp x.o.picks.length x.pc) x.o.picks.length (x.o.picks.map fun z => .int .i64 z)) ∧ (x.o.picks ≠ [] → ∀ b, (Value.slice x.sp x.o.picks.length x.pc).ownBlock = some b → b ∉ f.all) ∧ (x.o.picks ≠ [] → ∀ b, (Value.slice x.sp x.o.picks.length x.pc).ownBlock = some b → b ∉ r.all) ∧ (-9223372036854775808 ≤ x.o.i ∧ x.o.i ≤ 9223372036854775807) := by
  have hm : x ∈ l := List.mem_of_getElem? hx
  obtain ⟨b, off, cap', e0, hC, hlt⟩ := hs.cells hx
  injection e0 with e0
  exact ⟨b, off, e0, hC.below hB.below hlt, Nat.lt_of_lt_of_le hlt hB.below.size, hlt, fun hne => (hs.pk x hm hne).below hB.below, ScrAt.pkown (w0 := w0) hs hm hB.fo, ScrAt.pkown (w0 := w0) hs hm hB.ro, hs.rng x hm⟩
theorem do_at {f : Ft} {d : DS} (x : Opm) (w : World) (h : PD w f d) (hi : -9223372036854775808 ≤ x.o.i ∧ x.o.i ≤ 9223372036854775807) (hps : x.o.picks ≠ [] → Sl w 1 (.slice x.sp x.o.picks.length x.pc) x.o.picks.length (x.o.picks.map fun z => .int .i64 z)) (hpn : x.o.picks ≠ [] → ∀ b, (Value.slice x.sp x.o.picks.length x.pc).ownBlock = some b → b ∉ f.all) :
    Calls Try.prog 11 #[.pointer (some ⟨f.p, 0, none⟩), .agg (opcells x).toArray] w fun e w' => e = .returned (.tuple #[str (ado d x.o).1.1, .int .i64 (ado d x.o).1.2]) ∧ PD w' f (ado d x.o).2 ∧ Chg f.all w w' := do_any f d x.o x.sp x.pc w h hi hps hpn
theorem rdo_at {f : Rt} {d : DS} (x : Opm) (w : World) (h : RD w f d) (hi : -9223372036854775808 ≤ x.o.i ∧ x.o.i ≤ 9223372036854775807) (hps : x.o.picks ≠ [] → Sl w 1 (.slice x.sp x.o.picks.length x.pc) x.o.picks.length (x.o.picks.map fun z => .int .i64 z)) (hpn : x.o.picks ≠ [] → ∀ b, (Value.slice x.sp x.o.picks.length x.pc).ownBlock = some b → b ∉ f.all) :
    Calls Try.prog 12 #[.pointer (some ⟨f.p, 0, none⟩), .agg (opcells x).toArray] w fun e w' => e = .returned (.tuple #[str (ado d x.o).1.1, .int .i64 (ado d x.o).1.2]) ∧ RD w' f (ado d x.o).2 ∧ Chg f.all w w' := rdo_any f d x.o x.sp x.pc w h hi hps hpn
set_option maxHeartbeats 6400000 in
set_option maxRecDepth 100000 in
theorem matches_any (z : Int) (l : List Opm) (sa : Option Addr) (cap : Nat) (w : World) (hs : ScrAt w (.slice sa l.length cap) l) : Calls Try.prog 3 #[.int .i64 z, .slice sa l.length cap] w fun e w' => e = .returned (.bool true) ∧ Below w.heap.size w w' := by
  go_enter Try.func3, Try.ntmps3
  go_wp2_with fail
  refine (sanity_any w).mono ?_
  rintro e w1 ⟨rfl, hb1⟩
  by_cases hz : z < 1
  · go_wp2_with fail
    refine (start_bad z (.inl hz) w1).mono ?_
    rintro e w2 ⟨rfl, rfl⟩
    go_wp2
    go_ret
    exact ⟨rfl, hb1⟩
  · have hz1 : 1 ≤ z := by omega
    clear hz
    by_cases hz : 64 < z
    · go_wp2_with fail
      refine (start_bad z (.inr hz) w1).mono ?_
      rintro e w2 ⟨rfl, rfl⟩
      go_wp2
      go_ret
      exact ⟨rfl, hb1⟩
    · have hz2 : z ≤ 64 := by omega
      clear hz
      obtain ⟨n, rfl⟩ : ∃ n : Nat, z = n := ⟨z.toNat, by omega⟩
      go_wp2_with fail
      refine (start_any n (by omega) (by omega) w1).mono ?_
      rintro e w2 ⟨f, r, rfl, hB⟩
      have hs2 := hs.below (hb1.trans (hB.below.mono hb1.size))
      have hB2 : Both w w2 f r (Disk.fresh n) := ⟨hB.pd, hB.rd, fun x hx => Nat.le_trans hb1.size (hB.fo x hx), fun x hx => Nat.le_trans hb1.size (hB.ro x hx), hB.dis, hb1.trans (hB.below.mono hb1.size)⟩
      clear hB hs2 hb1
      by_cases hl : 60 < l.length
      · have hl' : (60 : Int) < l.length := by omega
        go_wp2
        go_ret
        exact ⟨rfl, hB2.below⟩
      · have hl' : (l.length : Int) ≤ 60 := by omega
        clear hl
        go_wp2
        go_loopw [9] (fun c wr => ∃ (k : Nat) (d : DS), k ≤ l.length ∧ c = .int .i64 k ∧ Both w wr f r d) (fun c _ => l.length - (intOf c).toNat)
        case atStart => exact ⟨0, _, by omega, rfl, hB2⟩
        case round =>
          obtain ⟨k, d, hk, rfl, hB⟩ := hrel
          by_cases hkl : k < l.length
          · obtain ⟨x, hx⟩ : ∃ x, l[k]? = some x := ⟨l[k], by simp [hkl]⟩
            obtain ⟨b, off, rfl, hC1, hbl, hbl0, hpk, hpn, hrn, hir⟩ := hB.opfacts hs hx
            have HX := Lib.hid hx; clear hx
            go_wp2_with (refine wpList_load_agg (opcells x) hC1 rfl rfl rfl aggOp infoOp ?_)
            refine (do_at x wr hB.pd hir hpk hpn).mono ?_
            rintro e w3 ⟨rfl, hP3, hc3⟩
            have hC3 := hC1.chg hc3 hbl fun hx => by have := hB.fo _ hx; omega
            have hpk3 := fun hne => (hpk hne).chg hc3 (hpn hne)
            have hR3 := hB.rd.chg hc3 fun x hx hy => hB.dis x hy hx
            clear hC1
            go_wp2_with (refine wpList_load_agg (opcells x) hC3 rfl rfl rfl aggOp infoOp ?_)
            refine (rdo_at x w3 hR3 hir hpk3 hrn).mono ?_
            rintro e w4 ⟨rfl, hR4, hc4⟩
            have hB4 := hB.step hP3 hc3 fun _ => ⟨hR4, hc4⟩
            clear hC3 hpk hpk3 hR3 hP3 hc3 hR4 hc4 hB
            go_wp2_with fail
            refine (same_any f r _ w4 hB4.pd hB4.rd).mono ?_
            rintro e w5 ⟨rfl, hb5⟩
            have hB5 := hB4.far hb5
            clear hB4
            go_wp2
            go_roundw
            case rel => exact ⟨k + 1, _, by omega, by go_num, hB5⟩
            case measure => simp [intOf]; omega
          · obtain rfl : k = l.length := by omega
            go_wp2
            go_ret
            exact ⟨rfl, hB.below⟩
end Go.Proofs.Ytkffgmhaiodagaa
