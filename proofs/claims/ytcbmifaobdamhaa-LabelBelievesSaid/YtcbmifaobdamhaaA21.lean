/- label: ranks and reasons, in plain Lean. -/
import Derived.Test.YtcbmifaobdamhaaP2
import Derived.Test.YtcbmifaobdamhaaA20
import Derived.Test.YtcbmifaobdamhaaMi
namespace Go.Label
abbrev Pm := Int → Option Nat
/-- the ranks of the assumptions in a set -/
def rk0 (b : Lg) (s : Nat) : Nat → Pm
  | 0 => fun _ => none
  | k + 1 => if s.testBit k then fun f => if f = b.assume.getD k 0 then some 0 else rk0 b s k f else rk0 b s k
/-- whether a rule comes up in a round -/
def newR (rk fd : Pm) (r : Rl) : Bool := (rk r.head).isNone && (fd r.head).isNone && r.body.all fun f => (rk f).isSome
/-- what the first i rules find in a round -/
def fndN (b : Lg) (rk : Pm) : Nat → Pm
  | 0 => fun _ => none
  | i + 1 => if newR rk (fndN b rk i) (b.rules.getD i rl0) then fun f => if f = (b.rules.getD i rl0).head then some i else fndN b rk i f else fndN b rk i
def fnd (b : Lg) (rk : Pm) : Pm := fndN b rk b.rules.length
/-- ranks and reasons after so many rounds -/
def rIter (b : Lg) (s : Nat) : Nat → Pm × Pm
  | 0 => (rk0 b s b.assume.length, fun _ => none)
  | j + 1 => (fun f => if (fnd b (rIter b s j).1 f).isSome then some (j + 1) else (rIter b s j).1 f, fun f => match fnd b (rIter b s j).1 f with | some i => some i | none => (rIter b s j).2 f)
/-- nothing more is found -/
def Quiet (b : Lg) (s j : Nat) : Prop := ∀ f, fnd b (rIter b s j).1 f = none
theorem rIter_still {b : Lg} {s j : Nat} (h : Quiet b s j) : rIter b s (j + 1) = rIter b s j := by
  show (_, _) = _
  refine Prod.ext ?_ ?_
  · funext f
    show (if (fnd b (rIter b s j).1 f).isSome then some (j + 1) else (rIter b s j).1 f) = _
    rw [h f]; rfl
  · funext f
    show (match fnd b (rIter b s j).1 f with | some i => some i | none => (rIter b s j).2 f) = _
    rw [h f]
theorem rIter_stays {b : Lg} {s j : Nat} (h : Quiet b s j) : ∀ d, rIter b s (j + d) = rIter b s j
  | 0 => rfl
  | d + 1 => by
    have ih := rIter_stays h d
    have h2 : Quiet b s (j + d) := fun f => by rw [ih]; exact h f
    rw [← Nat.add_assoc, rIter_still h2, ih]
theorem rIter_same {b : Lg} {s j j' : Nat} (h : Quiet b s j) (h' : Quiet b s j') : rIter b s j = rIter b s j' := by
  rcases Nat.le_total j j' with hl | hl
  · have := rIter_stays h (j' - j)
    rw [show j + (j' - j) = j' by omega] at this
    exact this.symm
  · have := rIter_stays h' (j - j')
    rw [show j' + (j - j') = j by omega] at this
    exact this
/-- how many of the first n have a property -/
def cntB (p : Nat → Bool) : Nat → Nat
  | 0 => 0
  | n + 1 => cntB p n + if p n then 1 else 0
theorem cntB_le (p : Nat → Bool) : ∀ n, cntB p n ≤ n
  | 0 => Nat.le_refl _
  | n + 1 => by have := cntB_le p n; simp only [cntB]; split <;> omega
theorem cntB_mono {p q : Nat → Bool} (h : ∀ i, p i = true → q i = true) : ∀ n, cntB p n ≤ cntB q n
  | 0 => Nat.le_refl _
  | n + 1 => by
    have := cntB_mono h n
    simp only [cntB]
    cases hp : p n with
    | true => rw [h n hp]; simp; omega
    | false => cases q n <;> simp <;> omega
theorem cntB_lt {p q : Nat → Bool} (h : ∀ i, p i = true → q i = true) : ∀ n, (∃ i, i < n ∧ q i = true ∧ p i = false) → cntB p n < cntB q n
  | 0, ⟨i, h, _⟩ => by omega
  | n + 1, ⟨i, hi, h1, h2⟩ => by
    have hm := cntB_mono h n
    simp only [cntB]
    by_cases e : i = n
    · subst e
      rw [h1, h2]; simp; omega
    · have ih := cntB_lt h n ⟨i, by omega, h1, h2⟩
      cases hp : p n with
      | true => rw [h n hp]; simp; omega
      | false => cases q n <;> simp <;> omega
/-- how many facts, and the contradiction, have a rank -/
def known (rk : Pm) : Nat := cntB (fun i => (rk ((i : Int) - 1)).isSome) 65
theorem fndN_new {b : Lg} {rk : Pm} {f : Int} {v : Nat} : ∀ n, n ≤ b.rules.length → fndN b rk n f = some v → rk f = none ∧ v < b.rules.length ∧ ∃ r ∈ b.rules, r.head = f
  | 0, _, h => by cases h
  | n + 1, hn, h => by
    unfold fndN at h
    split at h
    · rename_i hc
      dsimp only at h
      split at h
      · rename_i hf
        injection h with h
        subst h
        unfold newR at hc
        rw [Bool.and_eq_true, Bool.and_eq_true] at hc
        refine ⟨?_, by omega, _, getD_mem (by omega), hf.symm⟩
        rw [hf]
        simpa using hc.1.1
      · exact fndN_new n (by omega) h
    · exact fndN_new n (by omega) h
theorem known_lt {b : Lg} (ok : Ok b) {s j : Nat} {f : Int} (h : (fnd b (rIter b s j).1 f).isSome = true) : known (rIter b s j).1 < known (rIter b s (j + 1)).1 := by
  obtain ⟨v, hv⟩ := Option.isSome_iff_exists.1 h
  obtain ⟨h1, _, r, hr, h2⟩ := fndN_new _ (Nat.le_refl _) hv
  have hh := ok.head r hr
  have h64 := ok.f64
  unfold known
  refine cntB_lt (fun i hi => ?_) 65 ⟨(f + 1).toNat, by omega, ?_, ?_⟩
  · show (if (fnd b (rIter b s j).1 ((i : Int) - 1)).isSome then some (j + 1) else (rIter b s j).1 ((i : Int) - 1)).isSome = true
    split
    · rfl
    · exact hi
  · show (if (fnd b (rIter b s j).1 (((f + 1).toNat : Int) - 1)).isSome then some (j + 1) else _).isSome = true
    rw [show (((f + 1).toNat : Int) - 1) = f by omega, h]; rfl
  · rw [show (((f + 1).toNat : Int) - 1) = f by omega, h1]; rfl
end Go.Label
/- label: ranks and reasons in memory. -/
namespace Go.Own
open Go.RowKit Go.MapKept
theorem mget_mem (m : List (Int × Value)) (k : Int) : (mget m k).isSome = true ↔ k ∈ m.map (·.1) := by
  unfold mget
  rw [Option.isSome_map, List.find?_isSome]
  constructor
  · rintro ⟨p, hp, e⟩
    exact List.mem_map.2 ⟨p, hp, by simpa using e⟩
  · intro h
    obtain ⟨p, hp, e⟩ := List.mem_map.1 h
    exact ⟨p, hp, by simpa using e⟩
theorem mget_of_mem : ∀ {m : List (Int × Value)} {k : Int} {v : Value}, (m.map (·.1)).Nodup → (k, v) ∈ m → mget m k = some v
  | [], _, _, _, h => by cases h
  | p :: m, k, v, hn, h => by
    rw [List.map_cons, List.nodup_cons] at hn
    unfold mget
    rw [List.find?_cons]
    rcases List.mem_cons.1 h with h | h
    · subst h; simp
    · have hne : (p.1 == k) = false := by
        have : p.1 ≠ k := fun e => hn.1 (by rw [e]; exact List.mem_map.2 ⟨_, h, rfl⟩)
        simpa using this
      rw [hne]
      exact mget_of_mem hn.2 h
theorem run_len_imap {P : Program} {w : World} {b : Nat} {m : List (Int × Value)} {t k e : TypeId} (ht : P.underlying t = some (.map k e)) (h : IMap w b m) (ty : TypeId) : (Builtin.len_ #[t] ty #[.map (some b)]).run P w = .ok (.int .i64 m.length) w := by
  obtain ⟨es, clock, hb, _, h4⟩ := h
  have e1 : es.size = m.length := by
    have h5 := congrArg List.length h4
    simpa using h5
  rw [← e1]
  simp [Builtin.len_, run_underlying ht, MapKept.run_getObj_map hb, goInt, Result.andThen]
/-- Block A is a map that says f. -/
def MapF (w : World) (A : Nat) (f : Int → Option Nat) : Prop := ∃ m, IMap w A m ∧ ∀ k, mget m k = (f k).map fun n : Nat => Value.int .i64 n
theorem MapF.lt {w : World} {A : Nat} {f : Int → Option Nat} (h : MapF w A f) : A < w.heap.size := by obtain ⟨m, h, _⟩ := h; exact h.lt
theorem MapF.below {w w' : World} {A : Nat} {f : Int → Option Nat} (h : MapF w A f) (hb : Below w.heap.size w w') : MapF w' A f := by obtain ⟨m, h, h2⟩ := h; exact ⟨m, h.below hb, h2⟩
theorem MapF.chg {F : List Nat} {w w' : World} {A : Nat} {f : Int → Option Nat} (h : MapF w A f) (hb : Chg F w w') (hA : A ∉ F) : MapF w' A f := by obtain ⟨m, h, h2⟩ := h; exact ⟨m, h.chg hb hA, h2⟩
theorem MapF.congr {w : World} {A : Nat} {f g : Int → Option Nat} (h : MapF w A f) (e : ∀ k, f k = g k) : MapF w A g := by obtain ⟨m, h, h2⟩ := h; exact ⟨m, h, fun k => by rw [h2, e]⟩
theorem MapF.new (w : World) : MapF (w.alloc (.map #[] 0)) w.heap.size fun _ => none := ⟨[], IMap.new w, fun _ => rfl⟩
theorem MapF.set {w' : World} {A : Nat} {f : Int → Option Nat} {m : List (Int × Value)} (hm : ∀ k, mget m k = (f k).map fun n : Nat => Value.int .i64 n) {k : Int} {n : Nat} (h : IMap w' A (mset m k (.int .i64 n))) : MapF w' A fun x => if x = k then some n else f x :=
  ⟨_, h, fun x => by
    rw [mget_mset]
    show _ = Option.map (fun n : Nat => Value.int .i64 n) (if x = k then some n else f x)
    by_cases e : x = k
    · rw [if_pos e, if_pos e]; rfl
    · rw [if_neg e, if_neg e]; exact hm x⟩
theorem MapF.look {P : Program} {T K E : TypeId} {w : World} {A : Nat} {f : Int → Option Nat} (h : MapF w A f) (hT : P.underlying T = some (.map K E)) (hK : P.underlying K = some (.int .i64)) (hz : (zeroValue E).run P w = .ok (.int .i64 0) w) (k : Int) (ok : Bool) :
    (Instr.lookup T (.map (some A)) (.int .i64 k) ok).run P w = .ok (if ok then .tuple #[.int .i64 ((f k).getD 0 : Nat), .bool (f k).isSome] else .int .i64 ((f k).getD 0 : Nat)) w := by
  obtain ⟨m, hm, h2⟩ := h
  rw [run_lookup_imap hT hK hm hz k ok, h2]
  cases f k <;> rfl
end Go.Own
namespace Go.Label
open Go.RowKit Go.Own
/-- ranks and reasons lie in memory -/
structure RkM (t : TypeId) (w : World) (A : Nat) (rk rs : Pm) : Prop where
  a : MapF w A rk
  r : MapF w (A + 1) rs
  bx : Blk w (A + 2) [.map (some A)] t
theorem RkM.below {t : TypeId} {w w' : World} {A : Nat} {rk rs : Pm} (h : RkM t w A rk rs) (hb : Below w.heap.size w w') : RkM t w' A rk rs := ⟨h.a.below hb, h.r.below hb, h.bx.below hb h.bx.lt⟩
theorem RkM.chg {F : List Nat} {t : TypeId} {w w' : World} {A : Nat} {rk rs : Pm} (h : RkM t w A rk rs) (hb : Chg F w w') (h1 : A ∉ F) (h2 : A + 1 ∉ F) (h3 : A + 2 ∉ F) : RkM t w' A rk rs := ⟨h.a.chg hb h1, h.r.chg hb h2, h.bx.chg hb h3⟩
theorem fnd_same {b : Lg} {rk : Pm} {i : Nat} (h : newR rk (fndN b rk i) (b.rules.getD i rl0) = false) : fndN b rk (i + 1) = fndN b rk i := by
  conv => lhs; unfold fndN
  rw [h]; rfl
theorem fnd_more {b : Lg} {rk : Pm} {i : Nat} (h : newR rk (fndN b rk i) (b.rules.getD i rl0) = true) : fndN b rk (i + 1) = fun f => if f = (b.rules.getD i rl0).head then some i else fndN b rk i f := by
  conv => lhs; unfold fndN
  rw [h, if_pos rfl]
end Go.Label
namespace Go.Proofs.Ytcbmifaobdamhaa
open Go.RowKit Go.Own Go.Theory Go.BigFrame Go.Ib Go.Label Go.Shelf
theorem hTm : Try.prog.underlying 75 = some (.map 3 3) := by kernel_rfl
theorem hKi : Try.prog.underlying 3 = some (.int .i64) := by kernel_rfl
theorem mk_map (u : World) : (Instr.makeMap 75 none).run Try.prog u = .ok (.map (some u.heap.size)) (u.alloc (.map #[] 0)) := by
  simp [Instr.makeMap, run_underlying hTm, run_newObj_alloc, Result.andThen]
theorem look_any {w : World} {A : Nat} {f : Int → Option Nat} (h : MapF w A f) (k : Int) : (Instr.lookup 75 (.map (some A)) (.int .i64 k) true).run Try.prog w = .ok (.tuple #[.int .i64 ((f k).getD 0 : Nat), .bool (f k).isSome]) w :=
  h.look hTm hKi (Try.zeroValue3 w) k true
theorem look1_any {w : World} {A : Nat} {f : Int → Option Nat} (h : MapF w A f) (k : Int) : (Instr.lookup 75 (.map (some A)) (.int .i64 k) false).run Try.prog w = .ok (.int .i64 ((f k).getD 0 : Nat)) w :=
  h.look hTm hKi (Try.zeroValue3 w) k false
theorem lacks_any (rk : Pm) (x : Int) (A B : Nat) (w : World) (hc : w.cell? ⟨B, 0, none⟩ = some (.map (some A))) (hm : MapF w A rk) : Calls Try.prog 68 #[.int .i64 x, .pointer (some ⟨B, 0, none⟩)] w fun e w' => e = .returned (.bool (rk x).isNone) ∧ w' = w := by
  have hl := look_any hm x
  obtain ⟨z, hz⟩ : ∃ z, z = rk x := ⟨_, rfl⟩
  rw [← hz] at hl ⊢
  clear hm hz
  cases z with
  | none =>
    go_enter Try.func68, Try.ntmps68
    go_wp2
    go_ret
    exact ⟨rfl, rfl⟩
  | some v =>
    go_enter Try.func68, Try.ntmps68
    go_wp2
    go_ret
    exact ⟨rfl, rfl⟩
theorem lackP (rk : Pm) (A B : Nat) (w : World) (hB : Blk w B [.map (some A)] 75) (hm : MapF w A rk) :
    PredAt Try.prog 68 #[.pointer (some ⟨B, 0, none⟩)] (Value.int .i64) (fun x => (rk x).isNone) w := fun W x hb => by
  have hB2 := hB.below hb hB.lt
  exact (lacks_any rk x A B W (hB2.cell rfl) (hm.below hb)).mono (by rintro e w' ⟨rfl, rfl⟩; exact ⟨rfl, 0, rfl⟩)
/-- ContainsFunc at a body: whether something lacks a rank -/
theorem clack_any (rk : Pm) (l : List Int) (A B : Nat) (sa : Option Addr) (cap : Nat) (w : World) (hl : Sz w (.slice sa l.length cap) l.length (l.map (.int .i64))) (hll : l.length ≤ 1000000) (hB : Blk w B [.map (some A)] 75) (hm : MapF w A rk) :
    Calls Try.prog 42 #[.slice sa l.length cap, .func (.func 68) #[] #[.pointer (some ⟨B, 0, none⟩)]] w fun e w' => e = .returned (.bool (l.any fun x => (rk x).isNone)) ∧ ∃ q, w' = w.drewN q :=
  cfz_any Try.lc42 _ 68 _ (enters_of Try.func68 (by kernel_rfl) rfl) l sa cap w (lackP rk A B w hB hm) hl (by omega)
end Go.Proofs.Ytcbmifaobdamhaa
