/- sanity: the examples of the documentation. -/
import Derived.Test.YtkffgmhaiodagaaD14
import Derived.Test.YtkffgmhaiodagaaP2
namespace Go.Proofs.Ytkffgmhaiodagaa
open Go.RowKit Go.Own Go.Disk
attribute [local go_sem] setCell_twice str_size op_str_eql str_append
/-- A disk of the call's own. -/
structure At (w0 w : World) (f : Ft) (d : DS) : Prop where
  pd : PD w f d
  own : ∀ x ∈ f.all, w0.heap.size ≤ x
  below : Below w0.heap.size w0 w
theorem At.chg {w0 w w' : World} {f : Ft} {d d' : DS} (h : At w0 w f d) (hp : PD w' f d') (hc : Chg f.all w w') : At w0 w' f d' :=
  ⟨hp, h.own, h.below.trans (hc.below h.below.size h.own)⟩
theorem At.far {w0 w w' : World} {f : Ft} {d : DS} (h : At w0 w f d) (hb : Below w.heap.size w w') : At w0 w' f d :=
  ⟨h.pd.below hb, h.own, h.below.trans (hb.mono h.below.size)⟩
theorem At.other {w0 w w' : World} {f g : Ft} {d : DS} (h : At w0 w f d) (hc : Chg g.all w w') (hg : ∀ x ∈ g.all, w0.heap.size ≤ x) (hn : ∀ x ∈ f.all, x ∉ g.all) : At w0 w' f d :=
  ⟨h.pd.chg hc hn, h.own, h.below.trans (hc.below h.below.size hg)⟩
theorem Sl.keep {w w' : World} {size n B : Nat} {v : Value} {vs : List Value} {f : Ft} (h : Sl w size v n vs) (hc : Chg f.all w w') (hv : ∀ b, v.ownBlock = some b → B ≤ b) (hf : ∀ x ∈ f.all, x < B) : Sl w' size v n vs :=
  h.chg hc fun b hb hx => by have := hv b hb; have := hf b hx; omega
theorem new2_any (w : World) : Calls Try.prog 14 #[.int .i64 2] w fun e w' => ∃ f : Ft, e = .returned (.tuple #[.pointer (some ⟨f.p, 0, none⟩), .int .i64 0]) ∧ At w w' f x0 :=
  (new_any 2 (by decide) (by decide) w).mono fun _ _ ⟨f, h1, h2, h3, h4⟩ => ⟨f, h1, h2, h3, h4⟩
theorem full97 (w : World) : Calls Try.prog 18 #[.int .u8 97] w fun e w' => e = .returned (str sA) ∧ Below w.heap.size w w' := full_any 97 w
theorem full98 (w : World) : Calls Try.prog 18 #[.int .u8 98] w fun e w' => e = .returned (str sB) ∧ Below w.heap.size w w' := full_any 98 w
theorem full0 (w : World) : Calls Try.prog 18 #[.int .u8 0] w fun e w' => e = .returned (str zeros) ∧ Below w.heap.size w w' := full_any 0 w
theorem write_at {f : Ft} {d d' : DS} {i r : Int} {b : List UInt8} {w0 w : World} (h : At w0 w f d) (he : awrite d i b = (r, d')) : Calls Try.prog 17 #[.pointer (some ⟨f.p, 0, none⟩), .int .i64 i, str b] w fun e w' => e = .returned (.int .i64 r) ∧ At w0 w' f d' ∧ Chg f.all w w' :=
  (write_any f d i b w h.pd).mono fun e w' ⟨h1, h2, h3⟩ => by rw [he] at h1 h2; exact ⟨h1, h.chg h2 h3, h3⟩
theorem read_at {f : Ft} {d : DS} {i r : Int} {b : List UInt8} {w0 w : World} (h : At w0 w f d) (he : aread d i = (b, r)) : Calls Try.prog 16 #[.pointer (some ⟨f.p, 0, none⟩), .int .i64 i] w fun e w' => e = .returned (.tuple #[str b, .int .i64 r]) ∧ At w0 w' f d ∧ Below w.heap.size w w' :=
  (read_any f d i w h.pd).mono fun e w' ⟨h1, h2⟩ => by rw [he] at h1; exact ⟨h1, h.far h2, h2⟩
theorem flush_at {f : Ft} {d d' : DS} {r : Int} {w0 w : World} (h : At w0 w f d) (he : aflush d = (r, d')) : Calls Try.prog 25 #[.pointer (some ⟨f.p, 0, none⟩)] w fun e w' => e = .returned (.int .i64 r) ∧ At w0 w' f d' ∧ Chg f.all w w' :=
  (flush_any f d w h.pd).mono fun e w' ⟨h1, h2, h3⟩ => by rw [he] at h1 h2; exact ⟨h1, h.chg h2 h3, h3⟩
theorem rot_at {f : Ft} {d d' : DS} {i b r : Int} {w0 w : World} (h : At w0 w f d) (he : arot d i b = (r, d')) : Calls Try.prog 19 #[.pointer (some ⟨f.p, 0, none⟩), .int .i64 i, .int .i64 b] w fun e w' => e = .returned (.int .i64 r) ∧ At w0 w' f d' ∧ Chg f.all w w' :=
  (rot_any f d i b w h.pd).mono fun e w' ⟨h1, h2, h3⟩ => by rw [he] at h1 h2; exact ⟨h1, h.chg h2 h3, h3⟩
theorem wear_at {f : Ft} {d d' : DS} {i r : Int} {w0 w : World} (h : At w0 w f d) (he : awear d i = (r, d')) : Calls Try.prog 20 #[.pointer (some ⟨f.p, 0, none⟩), .int .i64 i] w fun e w' => e = .returned (.int .i64 r) ∧ At w0 w' f d' ∧ Chg f.all w w' :=
  (wear_any f d i w h.pd).mono fun e w' ⟨h1, h2, h3⟩ => by rw [he] at h1 h2; exact ⟨h1, h.chg h2 h3, h3⟩
theorem trip_at {f : Ft} {d d' : DS} {n : Int} {w0 w : World} (h : At w0 w f d) (hn : -9223372036854775808 ≤ n ∧ n ≤ 9223372036854775807) (he : atrip d n = d') : Calls Try.prog 30 #[.pointer (some ⟨f.p, 0, none⟩), .int .i64 n] w fun e w' => e = .returned (.tuple #[]) ∧ At w0 w' f d' ∧ Chg f.all w w' :=
  (trip_any f d n hn w h.pd).mono fun e w' ⟨h1, h2, h3⟩ => by rw [he] at h2; exact ⟨h1, h.chg h2 (h3.mono (by simp [Ft.all])), h3.mono (by simp [Ft.all])⟩
theorem mount_at {f : Ft} {d d' : DS} {ps : List Int} {sp : Option Addr} {pc : Nat} {w0 w : World} (h : At w0 w f d) (hps : Sl w 1 (.slice sp ps.length pc) ps.length (ps.map fun z => .int .i64 z)) (hpn : ∀ b, (Value.slice sp ps.length pc).ownBlock = some b → b ∉ f.all) (he : amount d ps = d') :
    Calls Try.prog 26 #[.pointer (some ⟨f.p, 0, none⟩), .slice sp ps.length pc] w fun e w' => e = .returned (.tuple #[]) ∧ At w0 w' f d' ∧ Chg f.all w w' :=
  (mount_any f d ps sp pc w h.pd (fun _ => hps) (fun _ => hpn)).mono fun e w' ⟨h1, h2, h3⟩ => by rw [he] at h2; exact ⟨h1, h.chg h2 h3, h3⟩
theorem image_at {f : Ft} {d : DS} {l : List (List UInt8)} {w0 w : World} (h : At w0 w f d) (he : aimage d.s = l) : Calls Try.prog 15 #[.pointer (some ⟨f.p, 0, none⟩)] w fun e w' => ∃ sa cap, e = .returned (.slice sa l.length cap) ∧ Sl w' 1 (.slice sa l.length cap) l.length (l.map str) ∧ (∀ b, (Value.slice sa l.length cap).ownBlock = some b → w.heap.size ≤ b) ∧ At w0 w' f d ∧ Below w.heap.size w w' :=
  (image_any f d w h.pd).mono fun e w' ⟨v, h1, h2, h3, h4⟩ => by
    have hl : d.s.length = l.length := by rw [← he]; simp [aimage]
    rw [hl, he] at h2
    obtain ⟨sa, cap, rfl, _⟩ := sl_slice h2
    exact ⟨sa, cap, h1, h2, h3, h.far h4, h4⟩
theorem ints_at {w0 w w' : World} {l : List Nat} {v : Value} {f : Ft} {d : DS} (h : At w0 w f d) (h2 : w'.ownsRow w.heap.size 3 1 v l.length (l.map fun (j : Nat) => .int .i64 j)) (h3 : Below w.heap.size w w') :
    ∃ sa cap, v = .slice sa l.length cap ∧ Sl w' 1 v l.length (l.map fun (j : Nat) => .int .i64 j) ∧ (∀ b, v.ownBlock = some b → w.heap.size ≤ b) ∧ At w0 w' f d := by
  obtain ⟨sa, cap, rfl, hge⟩ := Own.own_slice h2
  exact ⟨sa, cap, rfl, Sl.of_owns h2, hge, h.far h3⟩
theorem pending_at {f : Ft} {d : DS} {l : List Nat} {w0 w : World} (h : At w0 w f d) (he : apend d.s = l) : Calls Try.prog 22 #[.pointer (some ⟨f.p, 0, none⟩)] w fun e w' => ∃ sa cap, e = .returned (.slice sa l.length cap) ∧ Sl w' 1 (.slice sa l.length cap) l.length (l.map fun (j : Nat) => .int .i64 j) ∧ (∀ b, (Value.slice sa l.length cap).ownBlock = some b → w.heap.size ≤ b) ∧ At w0 w' f d ∧ Below w.heap.size w w' :=
  (pending_any f d w h.pd).mono fun e w' ⟨v, h1, h2, h3⟩ => by
    rw [he] at h2
    obtain ⟨sa, cap, rfl, h4, h5, h6⟩ := ints_at h h2 h3
    exact ⟨sa, cap, h1, h4, h5, h6, h3⟩
theorem worn_at {f : Ft} {d : DS} {l : List Nat} {w0 w : World} (h : At w0 w f d) (he : aworn d.s = l) : Calls Try.prog 23 #[.pointer (some ⟨f.p, 0, none⟩)] w fun e w' => ∃ sa cap, e = .returned (.slice sa l.length cap) ∧ Sl w' 1 (.slice sa l.length cap) l.length (l.map fun (j : Nat) => .int .i64 j) ∧ (∀ b, (Value.slice sa l.length cap).ownBlock = some b → w.heap.size ≤ b) ∧ At w0 w' f d ∧ Below w.heap.size w w' :=
  (worn_any f d w h.pd).mono fun e w' ⟨v, h1, h2, h3⟩ => by
    rw [he] at h2
    obtain ⟨sa, cap, rfl, h4, h5, h6⟩ := ints_at h h2 h3
    exact ⟨sa, cap, h1, h4, h5, h6, h3⟩
theorem clone_at {f : Ft} {d : DS} {w0 w : World} (h : At w0 w f d) : Calls Try.prog 28 #[.pointer (some ⟨f.p, 0, none⟩)] w fun e w' => ∃ f' : Ft, e = .returned (.pointer (some ⟨f'.p, 0, none⟩)) ∧ At w0 w' f d ∧ At w0 w' f' d ∧ (∀ x ∈ f'.all, w.heap.size ≤ x) ∧ Below w.heap.size w w' :=
  (clone_any f d w h.pd).mono fun e w' ⟨f', h1, h2, h3, h4⟩ => ⟨f', h1, h.far h4, ⟨h2, fun x hx => Nat.le_trans h.below.size (h3 x hx), h.below.trans (h4.mono h.below.size)⟩, h3, h4⟩
theorem up_at {f : Ft} {d : DS} {w0 w : World} (h : At w0 w f d) : Calls Try.prog 27 #[.pointer (some ⟨f.p, 0, none⟩)] w fun e w' => e = .returned (.bool (!d.off)) ∧ w' = w := up_any f d w h.pd
theorem len_at {f : Ft} {d : DS} {w0 w : World} (h : At w0 w f d) : Calls Try.prog 31 #[.pointer (some ⟨f.p, 0, none⟩)] w fun e w' => e = .returned (.int .i64 d.s.length) ∧ w' = w := len_any f d w h.pd
theorem new0_any (w : World) : Calls Try.prog 14 #[.int .i64 0] w fun e w' => e = .returned (.tuple #[.pointer none, .int .i64 1]) ∧ w' = w := new_bad 0 (by decide) w
end Go.Proofs.Ytkffgmhaiodagaa
