/- Helpers for a range over a function: blocks known whole as invariants; what a round keeps. -/
import Derived.Test.YtkccmpikeekceaaGreatTQ04
import Derived.Test.YtkccmpikeekceaaGreatTQ02
import Derived.RangeFuncNested
import Derived.RangeFuncBound
import Derived.RangeFuncLeaves
import Derived.Test.YtkccmpikeekceaaGreatTQ03
import Derived.Test.YtkccmpikeekceaaGreatTQ00
import Derived.Shelf.SlicesE.IndexFunc
import Derived.Shelf.SlicesE.Index
import Derived.Ground.SlgfProg
import Derived.Ground.SlgnProg
import Derived.Test.YtkccmpikeekceaaGreatProg
/- Helpers for a range over a function: blocks known whole as invariants; what a round keeps. -/
section
namespace Go.Own
open Go.RowKit
theorem Blk.kept {W W' : World} {g : Nat} {l : List Value} {t : TypeId} {row : Option Nat} (h : Blk W g l t) (hg : W.grownBy W' row) (hr : ∀ r, row = some r → ∃ o : Obj, W.heap[r]? = some o ∧ o.isCells = false) : Blk W' g l t := by
  unfold Blk at h ⊢
  rw [grownBy_keeps_cells hg hr h rfl]; exact h
theorem ownFrom_blk {β : Type} {B g : Nat} {l : β → List Value} {t : TypeId} : OwnFrom B (fun (s : β) W => Blk W g (l s) t) :=
  fun _ _ _ _ h hg hr => h.kept hg fun r e => (hr r e).2
theorem ownFrom_false {β : Type} {B : Nat} : OwnFrom B (fun (_ : β) _ => False) := fun _ _ _ _ h _ _ => h
theorem keepsOthers_drewN (W : World) (m : Nat) : KeepsOthers W (W.drewN m) := ⟨Nat.le_refl _, fun _ _ h _ => h⟩
/-- Blocks that the loops of an activation left behind for deferred calls: all are empty, each stands once. -/
def Marks (B : Nat) : List Deferred → World → Prop
  | [], _ => True
  | d :: ds, W => ∃ D, d.target = .collected D ∧ B ≤ D ∧ W.heap[D]? = some (.deferred (some [])) ∧ Marks B ds W ∧ ∀ d' ∈ ds, ∀ D', d'.target = .collected D' → D' < D
theorem Marks.mono {B : Nat} : ∀ {ds : List Deferred} {W W' : World}, Marks B ds W → (∀ D, B ≤ D → W.heap[D]? = some (.deferred (some [])) → W'.heap[D]? = some (.deferred (some []))) → Marks B ds W'
  | [], _, _, _, _ => trivial
  | _ :: _, _, _, ⟨D, h1, h2, h3, h4, h5⟩, h => ⟨D, h1, h2, h D h2 h3, h4.mono h, h5⟩
theorem Marks.lt {B : Nat} : ∀ {ds : List Deferred} {W : World}, Marks B ds W → ∀ d ∈ ds, ∀ D, d.target = .collected D → D < W.heap.size
  | [], _, _, d, h, _, _ => by cases h
  | d0 :: ds, W, ⟨D, h1, h2, h3, h4, h5⟩, d, h, D', e => by
    rcases List.mem_cons.1 h with rfl | h
    · rw [h1] at e; injection e with e; subst e
      exact (Array.getElem?_eq_some_iff.1 h3).1
    · exact h4.lt d h D' e
theorem Marks.cons {B D : Nat} {ds : List Deferred} {W0 W : World} (h0 : Marks B ds W0) (h : Marks B ds W) (hD : W0.heap.size ≤ D) (hB : B ≤ D) (hK : W.heap[D]? = some (.deferred (some []))) (args : Array Value) : Marks B ({ target := .collected D, args := args } :: ds) W :=
  ⟨D, rfl, hB, hK, h, fun d' hd D' e => Nat.lt_of_lt_of_le (h0.lt d' hd D' e) hD⟩
theorem Marks.other {B D : Nat} : ∀ {ds : List Deferred} {W : World} {o : Obj}, Marks B ds W → (∀ d' ∈ ds, ∀ D', d'.target = .collected D' → D' < D) → Marks B ds (W.putObj D o)
  | [], _, _, _, _ => trivial
  | d :: ds, W, o, ⟨D', h1, h2, h3, h4, h5⟩, h => ⟨D', h1, h2, (World.putObj_heap_other (by have := h d List.mem_cons_self D' h1; omega)).trans h3, h4.other fun d' hd => h d' (List.mem_cons_of_mem _ hd), h5⟩
/-- A function leaves over its marks. J: what is kept while the marks are taken up. -/
theorem leaves_marks {P : Program} {n B : Nat} {fn : Func} {tmps : Array Value} {R : Ending → World → Prop} (J : World → Prop)
    (hJ : ∀ W D, J W → B ≤ D → W.heap[D]? = some (.deferred (some [])) → J (W.putObj D (.deferred none)))
    (hR : ∀ W, J W → LeavesInM Fence.wide n P fn tmps R [] .returning W) : ∀ (ds : List Deferred) (W : World), Marks B ds W → J W → LeavesInM Fence.wide n P fn tmps R ds .returning W
  | [], W, _, hj => hR W hj
  | d :: ds, W, ⟨D, h1, h2, h3, h4, h5⟩, hj =>
    ⟨by simp, .inl ⟨D, _, h1, run_takeDeferred h3, leaves_marks J hJ hR ds _ (h4.other h5) (hJ W D hj h2 h3)⟩⟩
/-- Blocks for deferred calls lie as they lay. -/
def KeepD (W0 W : World) : Prop := ∀ (D : Nat) (o : Option (List Deferred)), W0.heap[D]? = some (Obj.deferred o) → W.heap[D]? = some (Obj.deferred o)
theorem KeepD.refl (W : World) : KeepD W W := fun _ _ h => h
theorem KeepD.others {W0 W W' : World} (h : KeepD W0 W) (k : KeepsOthers W W') : KeepD W0 W' := fun D o hD => k.same D _ (h D o hD) rfl
theorem KeepD.trans {A B C : World} (h : KeepD A B) (k : KeepD B C) : KeepD A C := fun D o hD => k D o (h D o hD)
theorem KeepD.alloc (W : World) (o : Obj) : KeepD W (W.alloc o) := (KeepD.refl W).others (KeepsOthers.alloc W o)
theorem ownFrom_keepD {β : Type} {W0 : World} : OwnFrom W0.heap.size (fun (_ : β) W => KeepD W0 W) := fun _ W W' row h hg hr D o hD => by
  have h1 := h D o hD
  have h2 : D < W0.heap.size := (Array.getElem?_eq_some_iff.1 hD).1
  rw [hg.block D (Array.getElem?_eq_some_iff.1 h1).1 (fun e => by have := (hr D e.symm).1; omega)]
  exact h1
theorem Marks.keepD {B : Nat} {ds : List Deferred} {W W' : World} (h : Marks B ds W) (k : KeepD W W') : Marks B ds W' := h.mono fun D _ hD => k D _ hD
/-- An append leaves whatever is no cells. -/
theorem own_keeps {w w' : World} {base size n : Nat} {e : TypeId} {v : Value} {xs : List Value} (h : w.ownsRow base e size v n xs) (hg : w.grownBy w' v.ownBlock) : KeepsOthers w w' := by
  refine KeepsOthers.of_grownBy hg fun j o hj ho => ?_
  obtain ⟨_, ⟨rfl, _⟩ | ⟨g, cap, cur, rfl, _, hgg, _⟩⟩ := h
  · cases hj
  · injection hj with hj
    subst hj
    have : some o = some _ := ho.symm.trans hgg
    injection this with this
    subst this
    rfl
/-- A row of one's own abides a turn of a block that holds no cells. -/
theorem own_put {W : World} {base size n D : Nat} {e : TypeId} {v : Value} {xs : List Value} {o : Obj} (o' : Obj) (h : W.ownsRow base e size v n xs) (hD : W.heap[D]? = some o) (ho : o.isCells = false) : (W.putObj D o').ownsRow base e size v n xs := by
  refine ⟨h.1, ?_⟩
  rcases h.2 with hn | ⟨g, cap, cur, rfl, hg, hgg, rest⟩
  · exact .inl hn
  · refine .inr ⟨g, cap, cur, rfl, hg, ?_, rest⟩
    rw [World.putObj_heap_other]
    · exact hgg
    · rintro rfl
      rw [hD] at hgg
      injection hgg with hgg
      subst hgg
      cases ho
theorem own_kept {W W' : World} {base size n : Nat} {e : TypeId} {v : Value} {xs : List Value} {row : Option Nat} (h : W.ownsRow base e size v n xs) (hg : W.grownBy W' row) (hr : ∀ r, row = some r → ∃ o : Obj, W.heap[r]? = some o ∧ o.isCells = false) : W'.ownsRow base e size v n xs := by
  refine ⟨h.1, ?_⟩
  rcases h.2 with hn | ⟨g, cap, cur, rfl, hb, hgg, rest⟩
  · exact .inl hn
  · exact .inr ⟨g, cap, cur, rfl, hb, (grownBy_keeps_cells hg hr hgg rfl).trans hgg, rest⟩
theorem results_cells2 {P : Program} {fn : Func} {p q : Tmp} {s t : TypeId} (h : fn.results = #[.cell p s, .cell q t]) {tmps : Array Value} {w : World} {a b : Addr} {u v : Value}
    (hp : tmps.getD p undef = .pointer (some a)) (hq : tmps.getD q undef = .pointer (some b)) (hu : (loadVar s a).run P w = .ok u w) (hv : (loadVar t b).run P w = .ok v w) :
    (results fn tmps).run P w = .ok (.tuple #[u, v]) w := by
  simp only [results, h]
  rw [Array.getD_eq_getD_getElem?] at hp hq
  simp [asAddr, hp, hq, hu, hv, Sem.run_bind]
theorem run_store_func {P : Program} {w : World} {a : Addr} {m : Mode} (f : Fn) (x y : Array Value) : (store a (.func f x y) m).run P w = stored P w a (.func f x y) m := run_store P w a _ m rfl
/-- A call of a closure. -/
theorem yields_closure {P : Program} {o : Oper} {ρ : Operand → Value} {w : World} {R : Value → World → Prop} {f : FuncId} {lb : Array Value} {x : Operand} {xs : Array Operand} {ts : Array TypeId} {args : Array Value} (ho : o.op = .call { callee := .value x, args := xs, argTypes := ts })
    (hf : (P.funcs[f]?).map (fun fn => (fn.name == "runtime.NumGoroutine", fn.body.isNone)) = some (false, false)) (hfn : ρ x = .func (.func f) #[] lb) (ha : xs.toList.map ρ = args.toList) (hc : Calls P f (args ++ lb) w fun e w' => ∃ v, e = .returned v ∧ R v w') : Yields P o ρ w R := by
  have ha' : xs.map ρ = args := by
    apply Array.toList_inj.1
    rw [Array.toList_map]; exact ha
  have hr : (execOp ρ o).run P w = .ok (.enter f (args ++ lb)) w := by
    unfold execOp
    simp only [ho, resolve, hfn, Deferred.ofValue, ha']
    simp [invoke, run_callFunc hf]
  unfold Yields
  rw [hr]
  exact hc
theorem below_others {W W' : World} (h : Below W.heap.size W W') : KeepsOthers W W' := ⟨h.size, fun k _o hk _ => (h.block k (Array.getElem?_eq_some_iff.1 hk).1).trans hk⟩
/-- A row of one's own abides a store elsewhere. -/
theorem own_set {w : World} {base size n : Nat} {e : TypeId} {v : Value} {xs : List Value} {a : Addr} {u : Value} (h : w.ownsRow base e size v n xs) (hne : ∀ b, v.ownBlock = some b → b ≠ a.block) : (w.setCell a u).ownsRow base e size v n xs := by
  refine ⟨h.1, ?_⟩
  rcases h.2 with hn | ⟨g, cap, cur, rfl, hb, hgg, rest⟩
  · exact .inl hn
  · exact .inr ⟨g, cap, cur, rfl, hb, (Below.heap_setCell w a u g (hne g rfl)).trans hgg, rest⟩
end Go.Own
end
/- theory: the program's of, least. -/
section
namespace Go.Theory
open Go.RowKit Go.Own
theorem snoc_ind {α : Type} {p : List α → Prop} (h0 : p []) (h1 : ∀ l x, p l → p (l ++ [x])) (l : List α) : p l := by
  have aux : ∀ r : List α, p r.reverse := fun r => by
    induction r with
    | nil => exact h0
    | cons x r ih => rw [List.reverse_cons]; exact h1 _ _ ih
  have := aux l.reverse
  rwa [List.reverse_reverse] at this
/-- the sum of weights over a list of numbers -/
def esum (wl : List Int) {s : Nat} (pre : List (El s)) : Int := pre.foldl (fun a x => a + wl.getD x.1 0) 0
theorem esum_snoc (wl : List Int) {s : Nat} (pre : List (El s)) (x : El s) : esum wl (pre ++ [x]) = esum wl pre + wl.getD x.1 0 := by unfold esum; rw [List.foldl_append]; rfl
theorem esum_rg {wl : List Int} (h : ∀ z ∈ wl, 0 ≤ z ∧ z ≤ 16384) {s : Nat} (pre : List (El s)) : 0 ≤ esum wl pre ∧ esum wl pre ≤ 16384 * pre.length := by
  refine snoc_ind (p := fun pre => 0 ≤ esum wl pre ∧ esum wl pre ≤ 16384 * pre.length) (by simp [esum]) (fun l x ih => ?_) pre
  · have := getD_wt h x.1
    rw [esum_snoc, List.length_append]
    simp only [List.length_cons, List.length_nil]
    omega
theorem esum_els (wl : List Int) (s : Nat) : ∀ k, k ≤ 16 → esum wl (els s k) = wsum wl s k
  | 0, _ => rfl
  | k + 1, hk => by
    rw [wsum, ← esum_els wl s k (by omega)]
    cases h : s.testBit k with
    | true => rw [els_yes (by omega) h, esum_snoc]; simp
    | false => rw [els_no h]; simp
def emin (wl : List Int) {s : Nat} (pre : List (El s)) : Int := pre.foldl (fun a x => min a (wl.getD x.1 0)) 16384
theorem emin_snoc (wl : List Int) {s : Nat} (pre : List (El s)) (x : El s) : emin wl (pre ++ [x]) = min (emin wl pre) (wl.getD x.1 0) := by unfold emin; rw [List.foldl_append]; rfl
theorem emin_rg {wl : List Int} (h : ∀ z ∈ wl, 0 ≤ z ∧ z ≤ 16384) {s : Nat} (pre : List (El s)) : 0 ≤ emin wl pre ∧ emin wl pre ≤ 16384 := by
  refine snoc_ind (p := fun pre => 0 ≤ emin wl pre ∧ emin wl pre ≤ 16384) (by simp [emin]) (fun l x ih => ?_) pre
  · have := getD_wt h x.1
    rw [emin_snoc]
    omega
theorem emin_els (wl : List Int) (s : Nat) : ∀ k, k ≤ 16 → emin wl (els s k) = wmin wl s k
  | 0, _ => rfl
  | k + 1, hk => by
    rw [wmin, ← emin_els wl s k (by omega)]
    cases h : s.testBit k with
    | true => rw [els_yes (by omega) h, emin_snoc]; simp
    | false => rw [els_no h]; simp
end Go.Theory
namespace Go.Proofs.YtkccmpikeekceaaGreat
open Go.RowKit Go.Own Go.Theory Go.BigFrame Go.Shelf
attribute [local go_sem] Oper.semAt_some SqC.wide_fn SqC.wide_round_fn
end Go.Proofs.YtkccmpikeekceaaGreat
end
/- slices.ContainsFunc, slices.IndexFunc at a slice of words that reads. -/
section
namespace Go.Own
open Go.RowKit Go.Proofs Go.Shelf
theorem sl_split {w : World} {n cap : Nat} {sa : Option Addr} {vs : List Value} (h : Sl w 1 (.slice sa n cap) n vs) (hn : 0 < n) :
    ∃ b off, sa = some ⟨b, off, none⟩ ∧ n ≤ cap ∧ cap ≤ maxLen ∧ Cells w b off vs ∧ b < w.heap.size := by
  obtain ⟨_, ⟨h2, h3⟩ | ⟨b, off, cap', h2, h3, h4, h5, h6⟩⟩ := h
  · omega
  · injection h2 with h2 _ h7
    subst h7
    exact ⟨b, off, h2, h3, h4, h5, h6⟩
theorem getBang {α : Type} [Inhabited α] (l : List α) (f : α → Value) (j : Nat) (h : j < l.length) : (l.map f)[j]? = some (f l[j]!) := by
  simp [h]
theorem cf_any {P : Program} {ρ : Ren} (L : SlLaysH.n8 P ρ) (p : Int → Bool) (g : Nat) (lb : Array Value) (eg : ∀ args w, (callFunc g args).run P w = .ok (.enter g args) w) (l : List Int) (sa : Option Addr) (cap : Nat) (w : World)
    (hp : PredAt P g lb (Value.int .i64) p w) (hl : Sl w 1 (.slice sa l.length cap) l.length (l.map (.int .i64))) (hm : l.length ≤ 9223372036854775807) :
    Calls P (ρ.f 8) #[.slice sa l.length cap, .func (.func g) #[] lb] w fun e w' => e = .returned (.bool (l.any p)) ∧ ∃ q, w' = w.drewN q := by
  by_cases h0 : l.length = 0
  · rw [h0]
    refine (AnyE.slices_ContainsFunc_empty L sa cap _ w).mono ?_
    rintro e w' ⟨rfl, rfl⟩
    rw [List.length_eq_zero_iff.1 h0]
    exact ⟨rfl, 0, rfl⟩
  · obtain ⟨b, off, rfl, _, _, hC, _⟩ := sl_split hl (by omega)
    refine (AnyE.slices_ContainsFunc L (Value.int .i64) p g lb eg b off l.length cap l w hp (Nat.le_refl _) hm fun j hj => hC j _ (getBang l _ j hj)).mono ?_
    rintro e w' ⟨rfl, h⟩
    rw [List.take_length]
    exact ⟨rfl, h⟩
theorem if_any {P : Program} {ρ : Ren} (L : SlLaysH.n6 P ρ) (p : Int → Bool) (g : Nat) (lb : Array Value) (eg : ∀ args w, (callFunc g args).run P w = .ok (.enter g args) w) (l : List Int) (sa : Option Addr) (cap : Nat) (w : World)
    (hp : PredAt P g lb (Value.int .i64) p w) (hl : Sl w 1 (.slice sa l.length cap) l.length (l.map (.int .i64))) (hm : l.length ≤ 9223372036854775807) :
    Calls P (ρ.f 6) #[.slice sa l.length cap, .func (.func g) #[] lb] w fun e w' => e = .returned (.int .i64 (Lib.idxBy (fun _ y => p y) l default)) ∧ ∃ q, w' = w.drewN q := by
  by_cases h0 : l.length = 0
  · rw [h0]
    refine (AnyE.slices_IndexFunc_empty L sa cap _ w).mono ?_
    rintro e w' ⟨rfl, rfl⟩
    rw [List.length_eq_zero_iff.1 h0]
    exact ⟨rfl, 0, rfl⟩
  · obtain ⟨b, off, rfl, _, _, hC, _⟩ := sl_split hl (by omega)
    refine (AnyE.slices_IndexFunc L (Value.int .i64) p g lb eg b off l.length cap l w hp (Nat.le_refl _) hm fun j hj => hC j _ (getBang l _ j hj)).mono ?_
    rintro e w' ⟨rfl, h⟩
    rw [List.take_length]
    exact ⟨rfl, h⟩
end Go.Own
end
/-
  DERIVED: THE SHELF's CONTRACTS AT THIS DUMP, IN PLAIN WORDS (tools/lay-plain.mjs out of 'YtkccmpikeekceaaGreatShA.lean', which tools/lay-shelf.mjs wrote): THE SAME DECLARATIONS UNDER THE SAME NAMES: 'import', 'namespace', 'open', 'def', 'theorem' AND NOTHING ELSE: no command of the shelf's: FOR A HAND-IN. Each laying: the table of numbers ('.._ren') and one theorem, a field a fact of the dump's own or the kernel's comparison; each contract: ONE APPLICATION.
-/
section
namespace Go.Proofs
open Go.Shelf
def Tryz.lc57_ren : Go.Shelf.Ren := ⟨fun | 8 => 34 | 6 => 27 | n => n, fun | 22 => 24 | 23 => 23 | 25 => 86 | 4 => 4 | 3 => 3 | 0 => 0 | n => n, fun | n => n⟩
theorem Tryz.lc57 : Go.Proofs.SlLaysH.n8 Tryz.prog Tryz.lc57_ren := {
  mixed := by kernel_rfl
  f6 := ⟨Tryz.f27.name, by decide, Tryz.func27.trans (congrArg some (by kernel_rfl))⟩
  f8 := ⟨Tryz.f34.name, by decide, Tryz.func34.trans (congrArg some (by kernel_rfl))⟩
  t0 := Tryz.underlying0
  a0 := Tryz.isAgg0
  z0 := Tryz.sizeOf0
  v0 := Tryz.zeroValue0
  t3 := Tryz.underlying3
  a3 := Tryz.isAgg3
  z3 := Tryz.sizeOf3
  v3 := Tryz.zeroValue3
  t4 := Tryz.underlying4
  a4 := Tryz.isAgg4
  z4 := Tryz.sizeOf4
  v4 := Tryz.zeroValue4
  t22 := Tryz.underlying24
  a22 := Tryz.isAgg24
  z22 := Tryz.sizeOf24
  v22 := Tryz.zeroValue24
  a23 := Tryz.isAgg23
  z23 := Tryz.sizeOf23
  t25 := Tryz.underlying86
  a25 := Tryz.isAgg86
  z25 := Tryz.sizeOf86
  v25 := Tryz.zeroValue86 }
def Tryz.lc65_ren : Go.Shelf.Ren := ⟨fun | 8 => 70 | 6 => 120 | n => n, fun | 22 => 22 | 23 => 3 | 25 => 142 | 4 => 4 | 3 => 3 | 0 => 0 | n => n, fun | n => n⟩
theorem Tryz.lc65 : Go.Proofs.SlLaysH.n8 Tryz.prog Tryz.lc65_ren := {
  mixed := by kernel_rfl
  f6 := ⟨Tryz.f120.name, by decide, Tryz.func120.trans (congrArg some (by kernel_rfl))⟩
  f8 := ⟨Tryz.f70.name, by decide, Tryz.func70.trans (congrArg some (by kernel_rfl))⟩
  t0 := Tryz.underlying0
  a0 := Tryz.isAgg0
  z0 := Tryz.sizeOf0
  v0 := Tryz.zeroValue0
  t3 := Tryz.underlying3
  a3 := Tryz.isAgg3
  z3 := Tryz.sizeOf3
  v3 := Tryz.zeroValue3
  t4 := Tryz.underlying4
  a4 := Tryz.isAgg4
  z4 := Tryz.sizeOf4
  v4 := Tryz.zeroValue4
  t22 := Tryz.underlying22
  a22 := Tryz.isAgg22
  z22 := Tryz.sizeOf22
  v22 := Tryz.zeroValue22
  a23 := Tryz.isAgg3
  z23 := Tryz.sizeOf3
  t25 := Tryz.underlying142
  a25 := Tryz.isAgg142
  z25 := Tryz.sizeOf142
  v25 := Tryz.zeroValue142 }
def Tryz.li51_ren : Go.Shelf.Ren := ⟨fun | 6 => 27 | n => n, fun | 22 => 24 | 23 => 23 | 25 => 86 | 3 => 3 | 0 => 0 | 4 => 4 | n => n, fun | n => n⟩
theorem Tryz.li51 : Go.Proofs.SlLaysH.n6 Tryz.prog Tryz.li51_ren := {
  mixed := by kernel_rfl
  f6 := ⟨Tryz.f27.name, by decide, Tryz.func27.trans (congrArg some (by kernel_rfl))⟩
  t0 := Tryz.underlying0
  a0 := Tryz.isAgg0
  z0 := Tryz.sizeOf0
  v0 := Tryz.zeroValue0
  t3 := Tryz.underlying3
  a3 := Tryz.isAgg3
  z3 := Tryz.sizeOf3
  v3 := Tryz.zeroValue3
  t4 := Tryz.underlying4
  a4 := Tryz.isAgg4
  z4 := Tryz.sizeOf4
  v4 := Tryz.zeroValue4
  t22 := Tryz.underlying24
  a22 := Tryz.isAgg24
  z22 := Tryz.sizeOf24
  v22 := Tryz.zeroValue24
  a23 := Tryz.isAgg23
  z23 := Tryz.sizeOf23
  t25 := Tryz.underlying86
  a25 := Tryz.isAgg86
  z25 := Tryz.sizeOf86
  v25 := Tryz.zeroValue86 }
def Tryz.ct61_ren : Go.Shelf.Ren := ⟨fun | 31 => 69 | 29 => 119 | n => n, fun | 22 => 24 | 23 => 23 | 4 => 4 | 3 => 3 | 0 => 0 | n => n, fun | n => n⟩
theorem Tryz.ct61 : Go.Proofs.SlLaysE.n31 Tryz.prog Tryz.ct61_ren := {
  mixed := by kernel_rfl
  f29 := ⟨Tryz.f119.name, by decide, Tryz.func119.trans (congrArg some (by kernel_rfl))⟩
  f31 := ⟨Tryz.f69.name, by decide, Tryz.func69.trans (congrArg some (by kernel_rfl))⟩
  t0 := Tryz.underlying0
  a0 := Tryz.isAgg0
  z0 := Tryz.sizeOf0
  v0 := Tryz.zeroValue0
  t3 := Tryz.underlying3
  a3 := Tryz.isAgg3
  z3 := Tryz.sizeOf3
  v3 := Tryz.zeroValue3
  t4 := Tryz.underlying4
  a4 := Tryz.isAgg4
  z4 := Tryz.sizeOf4
  v4 := Tryz.zeroValue4
  t22 := Tryz.underlying24
  a22 := Tryz.isAgg24
  z22 := Tryz.sizeOf24
  v22 := Tryz.zeroValue24
  a23 := Tryz.isAgg23
  z23 := Tryz.sizeOf23 }
end Go.Proofs
end
/- theory: the program's valid. -/
section
namespace Go.Theory
open Go.RowKit Go.Own Go.Ib
theorem subN {m s : Nat} (hm : m < 9223372036854775808) (hs : s < 9223372036854775808) : sub m s = true ↔ ∀ k, m.testBit k = true → s.testBit k = true := by
  rw [← sub_andNot, b_andNot m s hm hs, beq_iff_eq]
  constructor
  · intro h k hk
    have h0 : diff m s = 0 := by omega
    have h1 := diff_bit m s k hm
    rw [h0, Nat.zero_testBit, hk] at h1
    cases h2 : s.testBit k with
    | true => rfl
    | false => rw [h2] at h1; simp at h1
  · intro h
    have : diff m s = 0 := by
      apply Nat.eq_of_testBit_eq
      intro k
      rw [diff_bit m s k hm, Nat.zero_testBit]
      cases h1 : m.testBit k with
      | false => rfl
      | true => rw [h k h1]; rfl
    rw [this]; rfl
theorem sub_neg {x : Int} (hx : rg x) (h : x < 0) {s : Nat} (hs : s < 9223372036854775808) : sub x s = false := by
  unfold sub
  rw [decide_eq_false_iff_not]
  intro h1
  have h2 := congrArg BitVec.toNat ((sub_iff _ _).1 h1)
  rw [BitVec.toNat_or, B_nat s (by omega)] at h2
  have h3 : (B x).toNat ≤ (B x).toNat ||| s := Nat.left_le_or
  have h4 : 9223372036854775808 ≤ (B x).toNat := by
    unfold rg at hx
    show _ ≤ (BitVec.ofInt 64 x).toNat
    rw [BitVec.toNat_ofInt]
    omega
  omega
theorem lt_of_bits {x n : Nat} (h : ∀ k, x.testBit k = true → k < n) : x < 2 ^ n := by
  apply Nat.lt_pow_two_of_testBit
  intro k hk
  cases h1 : x.testBit k with
  | false => rfl
  | true => have := h k h1; omega
theorem bits_of_lt {x n k : Nat} (h : x < 2 ^ n) (hk : x.testBit k = true) : k < n := by
  by_cases h1 : k < n
  · exact h1
  · have := Nat.testBit_lt_two_pow (i := k) (x := x) (Nat.lt_of_lt_of_le h (Nat.pow_le_pow_right (by omega) (by omega)))
    rw [this] at hk; cases hk
theorem sub_all {n : Nat} (hn : n ≤ 16) (x : Int) (hx : rg x) : sub x ((2 ^ n - 1 : Nat) : Int) = decide (0 ≤ x ∧ x < ((2 ^ n : Nat) : Int)) := by
  have hp := pow16 hn
  by_cases h : x < 0
  · rw [sub_neg hx h (by omega)]
    simp; omega
  · obtain ⟨m, rfl⟩ : ∃ m : Nat, x = m := ⟨x.toNat, by omega⟩
    have hm : m < 9223372036854775808 := by unfold rg at hx; omega
    rw [Bool.eq_iff_iff, subN hm (by omega), decide_eq_true_iff]
    constructor
    · intro h1
      refine ⟨by omega, ?_⟩
      have := lt_of_bits (x := m) (n := n) fun k hk => by
        have := h1 k hk
        rw [Nat.testBit_two_pow_sub_one] at this
        simpa using this
      omega
    · rintro ⟨_, h2⟩ k hk
      rw [Nat.testBit_two_pow_sub_one]
      simpa using bits_of_lt (x := m) (n := n) (by omega) hk
theorem valid_iff {n : Nat} (hn : n ≤ 16) {may : Int} {l : List Int} (hl : l.length ≤ 1024) (hm : rg may) (hr : ∀ z ∈ l, rg z) :
    decide (valid n may l) = (sub may ((2 ^ n - 1 : Nat) : Int) && !(l.any fun c => c == 0 || !sub c ((2 ^ n - 1 : Nat) : Int))) := by
  rw [Bool.eq_iff_iff, decide_eq_true_iff, Bool.and_eq_true, sub_all hn may hm, decide_eq_true_iff, Bool.not_eq_true', List.any_eq_false]
  have hp3 : ((2 : Int) ^ (n : Int).toNat) = ((2 ^ n : Nat) : Int) := by simp
  unfold valid
  rw [hp3]
  have key : ∀ c ∈ l, (¬ (c == 0 || !sub c ((2 ^ n - 1 : Nat) : Int)) = true) ↔ (1 ≤ c ∧ c < ((2 ^ n : Nat) : Int)) := fun c hc => by
    rw [sub_all hn c (hr c hc)]
    generalize ((2 ^ n : Nat) : Int) = M
    rw [Bool.or_eq_true, not_or, beq_iff_eq, Bool.not_eq_true', decide_eq_false_iff_not, Decidable.not_not]
    omega
  constructor
  · rintro ⟨_, _, _, h4, h5, h6⟩
    exact ⟨⟨h4, h5⟩, fun c hc => (key c hc).2 (h6 c hc)⟩
  · rintro ⟨⟨h4, h5⟩, h6⟩
    exact ⟨by omega, by omega, hl, h4, h5, fun c hc => (key c hc).1 (h6 c hc)⟩
end Go.Theory
namespace Go.Proofs.YtkccmpikeekceaaGreat
open Go.RowKit Go.Own Go.Theory Go.BigFrame Go.Shelf
theorem badP (a : Int) (B : Nat) (w : World) (hB : B < w.heap.size) (hc : w.cell? ⟨B, 0, none⟩ = some (.int .i64 a)) :
    PredAt Tryz.prog 35 #[.pointer (some ⟨B, 0, none⟩)] (Value.int .i64) (fun c => c == 0 || !sub c a) w := fun W x hb => by
  have hcW : W.cell? ⟨B, 0, none⟩ = some (.int .i64 a) := (hb.cell (p := ⟨B, 0, none⟩) hB).trans hc
  show Calls Tryz.prog 35 #[.int .i64 x, .pointer (some ⟨B, 0, none⟩)] W _
  go_enter Tryz.func35, Tryz.ntmps35
  by_cases h : x = 0
  · subst h
    go_wp2
    go_ret
    exact ⟨by simp, 0, rfl⟩
  · have h' : (x == 0) = false := by simpa using h
    go_wp2_with (fail)
    refine (contains_any a x W).mono ?_
    rintro e w' ⟨rfl, rfl⟩
    go_wp2
    go_ret
    exact ⟨by simp [h'], 0, rfl⟩
set_option maxRecDepth 100000 in
theorem pvalid_any (n may : Int) (l : List Int) (sa : Option Addr) (cap : Nat) (hn : rg n) (hm : rg may) (w : World) (hl : Sl w 1 (.slice sa l.length cap) l.length (l.map (.int .i64))) (hll : l.length ≤ 1000000) (hr : ∀ z ∈ l, rg z) :
    Calls Tryz.prog 14 #[.agg #[.int .i64 n, .int .i64 may, .slice sa l.length cap]] w fun e w' => e = .returned (.bool (decide (valid n may l))) ∧ Below w.heap.size w w' := by
  have hm0 := hm
  unfold rg at hn hm
  by_cases h1 : n < 0
  · have e : decide (valid n may l) = false := decide_eq_false fun h => by have := h.1; omega
    rw [e]
    go_enter Tryz.func14, Tryz.ntmps14
    go_wp2
    go_ret
    exact ⟨rfl, (Below.refl _ w).alloc (Nat.le_refl _) _⟩
  · by_cases h2 : 16 < n
    · have e : decide (valid n may l) = false := decide_eq_false fun h => by have := h.2.1; omega
      rw [e]
      go_enter Tryz.func14, Tryz.ntmps14
      go_wp2
      go_ret
      exact ⟨rfl, (Below.refl _ w).alloc (Nat.le_refl _) _⟩
    · obtain ⟨n, rfl⟩ : ∃ k : Nat, n = k := ⟨n.toNat, by omega⟩
      have hn16 : n ≤ 16 := by omega
      have g1 : (n : Int) ≤ 16 := by omega
      clear h1 h2
      by_cases h3 : 1024 < l.length
      · have h3' : (1024 : Int) < l.length := by omega
        have e : decide (valid n may l) = false := decide_eq_false fun h => by have := h.2.2.1; omega
        rw [e]
        go_enter Tryz.func14, Tryz.ntmps14
        go_wp2
        go_ret
        exact ⟨rfl, (Below.refl _ w).alloc (Nat.le_refl _) _⟩
      · have g3 : (l.length : Int) ≤ 1024 := by omega
        have hv := valid_iff hn16 (may := may) (l := l) (by omega) hm0 hr
        have hp := wrap_pow hn16
        have hp2 := pow16 hn16
        have hp3 : 1 ≤ 2 ^ n := Nat.one_le_two_pow
        obtain ⟨M, hM⟩ : ∃ M, M = 2 ^ n := ⟨_, rfl⟩
        rw [← hM] at hp hp2 hp3 hv
        clear hM
        rw [show ((M - 1 : Nat) : Int) = (M : Int) - 1 by omega] at hv
        obtain ⟨W2, hW2⟩ : ∃ W2, (w.alloc (.cells #[.int .i64 n, .int .i64 may, .slice sa l.length cap] 48)).alloc (.cells #[.int .i64 ((M : Int) - 1)] 23) = W2 := ⟨_, rfl⟩
        have b2 : Below w.heap.size w W2 := by rw [← hW2]; exact ((Below.refl _ w).alloc (Nat.le_refl _) _).alloc (by simp) _
        have k1 : Blk W2 w.heap.size [.int .i64 n, .int .i64 may, .slice sa l.length cap] 48 := by rw [← hW2]; exact (Blk.new _ _ _).alloc _
        have k2 : Blk W2 (w.heap.size + 1) [.int .i64 ((M : Int) - 1)] 23 := by rw [← hW2]; exact Blk.new_at _ _ _ (by simp)
        have cf : Calls Tryz.prog 34 #[.slice sa l.length cap, .func (.func 35) #[] #[.pointer (some ⟨w.heap.size + 1, 0, none⟩)]] W2 _ := cf_any Tryz.lc57 _ 35 _ (enters_of Tryz.func35 (by kernel_rfl) rfl) l sa cap W2 (badP ((M : Int) - 1) (w.heap.size + 1) W2 k2.lt (k2.cell rfl)) (hl.below b2) (by omega)
        have HV := Lib.hid hv; clear hv
        have c1 : W2.cell? ⟨w.heap.size, 1, none⟩ = some (.int .i64 may) := k1.cell rfl
        have c2 : W2.cell? ⟨w.heap.size, 2, none⟩ = some (.slice sa l.length cap) := k1.cell rfl
        have c3 : W2.cell? ⟨w.heap.size + 1, 0, none⟩ = some (.int .i64 ((M : Int) - 1)) := k2.cell rfl
        clear hp3
        go_enter Tryz.func14, Tryz.ntmps14
        go_wp2_with (fail)
        refine (contains_any _ may W2).mono ?_
        rintro e w' ⟨rfl, rfl⟩
        cases hs : sub may ((M : Int) - 1) with
        | false =>
          go_wp2
          go_ret
          rw [HV.out, hs]
          exact ⟨rfl, b2⟩
        | true =>
          go_wp2_with (fail)
          refine cf.mono ?_
          rintro e w' ⟨rfl, q, rfl⟩
          go_wp2
          go_ret
          rw [HV.out, hs, Bool.true_and]
          exact ⟨rfl, below_drewN b2 q⟩
end Go.Proofs.YtkccmpikeekceaaGreat
end
/- top: in place of a text of theory (what a base is in memory); and the program's test of a cost. -/
section
namespace Go.Proofs.YtkccmpikeekceaaGreat
open Go.RowKit Go.Own Go.Theory Go.BigFrame Go.Shelf
theorem aggBase : (match Tryz.prog.underlying 48 with | some (.struct _) | some (.array _ _) => true | _ => false) = true := by kernel_rfl
theorem infoBase : (Tryz.prog.info? 48).map (·.size) = some 3 := by kernel_rfl
theorem badC (w : World) : PredAt Tryz.prog 71 #[] (Value.int .i64) (fun x => decide (x < 1) || decide (1024 < x)) w := fun W x _ => by
  show Calls Tryz.prog 71 #[.int .i64 x] W _
  go_enter Tryz.func71, Tryz.ntmps71
  by_cases h : x < 1
  · go_wp2
    go_ret
    exact ⟨by simp [h], 0, rfl⟩
  · have h' : 1 ≤ x := by omega
    go_wp2
    go_ret
    exact ⟨by simp [show ¬ x < 1 by omega], 0, rfl⟩
end Go.Proofs.YtkccmpikeekceaaGreat
end
/- theory: the sets that clash. -/
section
namespace Go.Theory
open Go.RowKit Go.Own Go.Ib
/-- a row of bools -/
def bl (n : Nat) (g : Nat → Bool) : List Value := (List.range n).map fun s => Value.bool (g s)
theorem bl_len (n : Nat) (g : Nat → Bool) : (bl n g).length = n := by simp [bl]
theorem bl_get {n i : Nat} (g : Nat → Bool) (h : i < n) : (bl n g)[i]? = some (.bool (g i)) := by simp [bl, h]
theorem bl_congr {n : Nat} {g h : Nat → Bool} (e : ∀ s, s < n → g s = h s) : bl n g = bl n h := by
  unfold bl
  apply List.map_congr_left
  intro s hs
  rw [e s (List.mem_range.1 hs)]
theorem bl_set {n i : Nat} {g : Nat → Bool} {b : Bool} (h : i < n) : (bl n g).set i (.bool b) = bl n fun s => if s = i then b else g s := by
  apply List.ext_getElem?
  intro j
  rw [List.getElem?_set]
  by_cases hj : j < n
  · rw [bl_get _ hj]
    by_cases e : i = j
    · subst e
      rw [if_pos rfl, bl_len, if_pos h, bl_get _ h, if_pos rfl]
    · rw [if_neg e, bl_get _ hj, if_neg (fun h => e h.symm)]
  · have h1 : (bl n g)[j]? = none := List.getElem?_eq_none (by rw [bl_len]; omega)
    have h2 : (bl n fun s => if s = i then b else g s)[j]? = none := List.getElem?_eq_none (by rw [bl_len]; omega)
    rw [h1, h2]
    by_cases e : i = j
    · omega
    · rw [if_neg e]
theorem bl_rep (n : Nat) : List.replicate n (Value.bool false) = bl n fun _ => false := by
  unfold bl
  rw [List.map_const', List.length_range]
/-- s contains a conflict -/
def cl (l : List Int) (s : Nat) : Bool := l.any fun c => sub c s
theorem cl_fst {l : List Int} {s : Nat} : cl l s = decide (0 ≤ fst l s) := by
  unfold cl fst
  rw [Bool.eq_iff_iff, List.any_eq_true, decide_eq_true_iff]
  constructor
  · rintro ⟨c, hc, h⟩
    rw [if_pos (List.findIdx_lt_length.2 ⟨c, hc, h⟩)]; omega
  · intro h
    split at h
    · rename_i hlt
      obtain ⟨x, hx, h2⟩ := List.findIdx_lt_length.1 hlt
      exact ⟨x, hx, h2⟩
    · omega
theorem diff_lt {s x : Nat} (hs : s < 9223372036854775808) (h : s.testBit x = true) : diff s (2 ^ x) < s := by
  have h1 := diff_le s (2 ^ x)
  have h2 : diff s (2 ^ x) ≠ s := fun e => by
    have := diff_bit s (2 ^ x) x hs
    rw [e, h, Nat.testBit_two_pow_self] at this
    cases this
  omega
/-- The table's law. -/
theorem cl_step {n : Nat} {l : List Int} (hn : n ≤ 16) (hv : ∀ c ∈ l, 1 ≤ c ∧ c < ((2 ^ n : Nat) : Int)) {s : Nat} (hs : s < 2 ^ n) :
    cl l s = (decide ((s : Int) ∈ l) || (els s 16).any fun x => cl l (diff s (2 ^ x.1))) := by
  have hp := pow16 hn
  have nat : ∀ c ∈ l, ∃ m : Nat, c = m ∧ m < 2 ^ n := fun c hc => ⟨c.toNat, by have := hv c hc; omega, by have := hv c hc; omega⟩
  have hmem : ∀ x (h : x < 16 ∧ s.testBit x = true), (⟨x, h⟩ : El s) ∈ els s 16 := fun x h => by
    unfold els
    rw [List.mem_filterMap]
    exact ⟨x, List.mem_range.2 h.1, by rw [dif_pos h]⟩
  rw [Bool.eq_iff_iff, Bool.or_eq_true, decide_eq_true_iff, List.any_eq_true]
  unfold cl
  rw [List.any_eq_true]
  constructor
  · rintro ⟨c, hc, h⟩
    obtain ⟨m, rfl, hm⟩ := nat c hc
    rw [subN (by omega) (by omega)] at h
    by_cases e : m = s
    · subst e; exact .inl hc
    · right
      have : ∃ x, s.testBit x = true ∧ m.testBit x = false := by
        apply Classical.byContradiction
        intro hno
        apply e
        apply Nat.eq_of_testBit_eq
        intro x
        cases h1 : s.testBit x with
        | true =>
          cases h2 : m.testBit x with
          | true => rfl
          | false => exact absurd ⟨x, h1, h2⟩ hno
        | false =>
          cases h2 : m.testBit x with
          | false => rfl
          | true => rw [h x h2] at h1; cases h1
      obtain ⟨x, h1, h2⟩ := this
      have hx : x < 16 := Nat.lt_of_lt_of_le (bits_of_lt hs h1) hn
      refine ⟨⟨x, hx, h1⟩, hmem x ⟨hx, h1⟩, ?_⟩
      rw [List.any_eq_true]
      refine ⟨_, hc, ?_⟩
      rw [subN (by omega) (Nat.lt_of_le_of_lt (diff_le _ _) (by omega))]
      intro k hk
      rw [diff_bit s _ k (by omega), h k hk, Nat.testBit_two_pow]
      have : x ≠ k := fun e => by subst e; rw [h2] at hk; cases hk
      simp [this]
  · rintro (h | ⟨⟨x, hx⟩, _, h⟩)
    · exact ⟨_, h, (subN (by omega) (by omega)).2 fun _ h => h⟩
    · rw [List.any_eq_true] at h
      obtain ⟨c, hc, h⟩ := h
      obtain ⟨m, rfl, hm⟩ := nat c hc
      refine ⟨_, hc, ?_⟩
      rw [subN (by omega) (Nat.lt_of_le_of_lt (diff_le _ _) (by omega))] at h
      rw [subN (by omega) (by omega)]
      intro k hk
      have := h k hk
      rw [diff_bit s _ k (by omega)] at this
      exact (Bool.and_eq_true_iff.1 this).1
end Go.Theory
namespace Go.Proofs.YtkccmpikeekceaaGreat
open Go.RowKit Go.Own Go.Theory Go.BigFrame Go.Shelf
open Go.Ib (diff)
theorem mk_bools (n : Nat) (hn : n ≤ 1000000) (u : World) : (Instr.makeSlice 66 (.int .i64 n) (.int .i64 n)).run Tryz.prog u = .ok (.slice (some ⟨u.heap.size, 0, none⟩) n n) (u.alloc (.cells (Array.replicate n (.bool false)) 4)) :=
  run_make_one (.bool false) 1 (by kernel_rfl) (by kernel_rfl) rfl n (by omega) (by unfold maxLen; omega) u
attribute [local go_sem] Oper.semAt_some SqC.wide_fn SqC.wide_round_fn
set_option maxRecDepth 100000 in
theorem clashes_any (n may : Nat) (l : List Int) (sa : Option Addr) (cap : Nat) (hv : valid n may l) (w : World) (hl : Sl w 1 (.slice sa l.length cap) l.length (l.map (.int .i64))) :
    Calls Tryz.prog 36 #[.agg #[.int .i64 n, .int .i64 may, .slice sa l.length cap]] w fun e w' => ∃ g, w.heap.size ≤ g ∧ e = .returned (.slice (some ⟨g, 0, none⟩) (2 ^ n) (2 ^ n)) ∧ Blk w' g (bl (2 ^ n) (cl l)) 4 ∧ Below w.heap.size w w' := by
  have hn16 : n ≤ 16 := by have := hv.2.1; omega
  have hp := wrap_pow hn16
  have hp2 := pow16 hn16
  have hll : l.length ≤ 1024 := hv.2.2.1
  have hv2 : ∀ c ∈ l, 1 ≤ c ∧ c < ((2 ^ n : Nat) : Int) := by
    have := hv.2.2.2.2.2
    rw [show ((2 : Int) ^ (n : Int).toNat) = ((2 ^ n : Nat) : Int) by simp] at this
    exact this
  have step := fun (s : Nat) => cl_step (s := s) hn16 hv2
  obtain ⟨M, hM⟩ : ∃ M, M = 2 ^ n := ⟨_, rfl⟩
  rw [← hM] at hp hp2 hv2 step ⊢
  clear hM hv
  have hmk := mk_bools M (by omega)
  have hstep := Lib.hid step; clear step
  refine (callsIn_wide (n := 4)).1 ?_
  refine callsIn_of_wp_marks Tryz.func36 rfl trivial ?_ rfl
  simp only [Tryz.ntmps36, List.size_toArray, List.length_cons, List.length_nil, Nat.reduceAdd, Nat.reduceSub, Array.replicate_succ, Array.replicate_zero, List.push_toArray, List.append_toArray, List.nil_append, List.cons_append]
  gi_wp2
  obtain ⟨B, hB⟩ : ∃ B, B = w.heap.size := ⟨_, rfl⟩
  rw [← hB]
  obtain ⟨W0, hW0⟩ : ∃ W0, ((w.alloc (.cells #[.int .i64 n, .int .i64 may, .slice sa l.length cap] 48)).alloc (.cells (Array.replicate M (.bool false)) 4)).alloc (.cells #[.slice (some ⟨B + 1, 0, none⟩) M M] 66) = W0 := ⟨_, rfl⟩
  have a1 : Blk W0 (B + 1) (bl M fun _ => false) 4 := by
    rw [← hW0, ← bl_rep, show B + 1 = (w.alloc (.cells #[.int .i64 n, .int .i64 may, .slice sa l.length cap] 48)).heap.size by rw [hB]; simp]
    exact (blk_make _ M _ _).alloc _
  have a2 : Blk W0 (B + 1 + 1) [.slice (some ⟨B + 1, 0, none⟩) M M] 66 := by rw [← hW0]; exact Blk.new_at _ _ _ (by rw [hB]; simp)
  have a3 : Below B w W0 := by rw [← hW0, hB]; exact (((Below.refl _ w).alloc (Nat.le_refl _) _).alloc (by simp) _).alloc (by simp; omega) _
  rw [hW0]
  clear hW0
  obtain ⟨B1, hB1⟩ : ∃ x, x = B + 1 := ⟨_, rfl⟩
  obtain ⟨B2, hB2⟩ : ∃ x, x = B + 1 + 1 := ⟨_, rfl⟩
  rw [← hB2, ← hB1] at a2
  rw [← hB1] at a1
  rw [← hB2, ← hB1]
  have HB1 := Lib.hid hB1; clear hB1
  have HB2 := Lib.hid hB2; clear hB2
  have HB := Lib.hid hB; clear hB
  gi_loopw [15] (fun c wr => ∃ k : Nat, k ≤ l.length ∧ c = .int .i64 k ∧ Blk wr B1 (bl M fun s => decide ((s : Int) ∈ l.take k)) 4 ∧ Blk wr B2 [.slice (some ⟨B1, 0, none⟩) M M] 66 ∧ Below B w wr) (fun c _ => l.length - (vInt c).toNat)
  case atStart =>
    refine ⟨0, by omega, rfl, ?_, a2, a3⟩
    rw [bl_congr (h := fun _ => false) (fun s _ => by simp)]
    exact a1
  case round =>
    obtain ⟨k, hk, rfl, h1, h2, h3⟩ := hrel
    clear a1 a2 a3
    by_cases hkl : k < l.length
    · obtain ⟨b, o, rfl, _, _, hC, hbs⟩ := sl_at hl (by omega)
      obtain ⟨x, hx, hxM⟩ : ∃ x : Nat, l[k] = (x : Int) ∧ x < M := by
        have := hv2 _ (List.getElem_mem hkl)
        exact ⟨l[k].toNat, by omega, by omega⟩
      have cx : wr.cell? ⟨b, o + k, none⟩ = some (.int .i64 x) := ((hC.below (HB.out ▸ h3) hbs)) k _ (by simp [hkl, hx])
      have cS : wr.cell? ⟨B2, 0, none⟩ = some (.slice (some ⟨B1, 0, none⟩) M M) := h2.cell rfl
      have cO := h1.cellD (.bool false) (i := x) (by rw [bl_len]; exact hxM)
      have cF : wr.frozen? ⟨B1, x, none⟩ = false := h1.frozen x
      have hxi : (x : Int) < M := by omega
      have HX := Lib.hid hx; clear hx
      gi_wp2
      go_roundw
      case rel =>
        refine ⟨k + 1, by omega, by go_num, ?_, h2.set_ne _ (by have := HB1.out; have := HB2.out; simp; omega), below_set h3 (by rw [HB.out]; exact Nat.le_refl _) (by have := HB1.out; omega) _ _⟩
        have := h1.set x (.bool true)
        rw [bl_set hxM] at this
        rw [bl_congr (g := fun s => decide ((s : Int) ∈ l.take (k + 1))) (h := fun s => if s = x then true else decide ((s : Int) ∈ l.take k))]
        · exact this
        · intro s _
          rw [List.take_succ_eq_append_getElem hkl, HX.out]
          by_cases e : s = x
          · subst e; simp
          · have e' : ¬ ((s : Int) = (x : Int)) := by omega
            rw [if_neg e]; simp [e']
      case measure => simp [vInt]; omega
    · obtain rfl : k = l.length := by omega
      rw [List.take_length] at h1
      have cS : wr.cell? ⟨B2, 0, none⟩ = some (.slice (some ⟨B1, 0, none⟩) M M) := h2.cell rfl
      gi_wp2
      rw [hp]
      refine wpIn_loop (fun a' w' => ∃ (k : Nat) (ds : List Deferred) (p6 p26 p27 p28 p29 p47 : Value), (k ≤ M ∧ Blk w' B1 (bl M fun s => if s < k then cl l s else decide ((s : Int) ∈ l)) 4 ∧ Blk w' B2 [.slice (some ⟨B1, 0, none⟩) M M] 66 ∧ Below B w w' ∧ Marks B ds w') ∧ a' = { tmps := #[.agg #[.int .i64 n, .int .i64 may, .slice sa l.length cap], .pointer (some ⟨B, 0, none⟩), .slice none 0 0, .pointer (some ⟨B2, 0, none⟩), undef, u5, p6, undef, .pointer (some ⟨B, 0, none⟩), .int .i64 n, .int .i64 M, .slice (some ⟨B1, 0, none⟩) M M, .pointer (some ⟨B, 2, none⟩), .slice sa l.length cap, .int .i64 l.length, .int .i64 l.length, .bool false, u17, u18, u19, u20, u21, u22, .slice (some ⟨B1, 0, none⟩) M M, .int .i64 M, .int .i64 (k : Int), p26, p27, p28, p29, undef, undef, undef, undef, undef, undef, undef, undef, undef, undef, undef, undef, undef, undef, undef, undef, undef, p47, undef], defers := ds })
        (fun a' _ => M - (vInt (a'.tmps.getD 25 undef)).toNat) ?_ ?_
      · refine ⟨0, [], undef, undef, undef, undef, undef, undef, ⟨by omega, ?_, h2, h3, trivial⟩, rfl⟩
        rw [bl_congr (h := fun s => decide ((s : Int) ∈ l)) (fun s _ => by simp)]
        exact h1
      clear cS h1 h2 h3
      rintro a' wr ⟨k, ds, p6, p26, p27, p28, p29, p47, ⟨hk, h1, h2, h3, h4⟩, rfl⟩
      have cS : wr.cell? ⟨B2, 0, none⟩ = some (.slice (some ⟨B1, 0, none⟩) M M) := h2.cell rfl
      by_cases hkM : k < M
      · have hki : (k : Int) < M := by omega
        gi_wp2_with (gi_at_call 29; refine (callsIn_wide.2 (bits_any k _)).mono ?_; rintro e w' ⟨rfl, rfl⟩)
        gi_wp2
        obtain ⟨P, hP⟩ : ∃ P, P = wr.heap.size := ⟨_, rfl⟩
        rw [← hP]
        obtain ⟨W0, hW0⟩ : ∃ W0, (wr.alloc (.cells #[.int .i64 k] 3)).alloc (.cells #[.int .i64 k] 23) = W0 := ⟨_, rfl⟩
        have hsz := h3.size
        have l1 := h1.lt
        have l2 := h2.lt
        have e1 : Blk W0 B1 (bl M fun s => if s < k then cl l s else decide ((s : Int) ∈ l)) 4 := by rw [← hW0]; exact (h1.alloc _).alloc _
        have e2 : Blk W0 B2 [.slice (some ⟨B1, 0, none⟩) M M] 66 := by rw [← hW0]; exact (h2.alloc _).alloc _
        have e3 : Blk W0 P [.int .i64 k] 3 := by rw [← hW0]; exact (Blk.new_at _ _ _ hP).alloc _
        have e4 : Blk W0 (P + 1) [.int .i64 k] 23 := by rw [← hW0]; exact Blk.new_at _ _ _ (by rw [hP]; simp)
        have e5 : Below B w W0 := by rw [← hW0]; exact h3.trans (((Below.refl B wr).alloc (by rw [HB.out]; exact hsz) _).alloc (by rw [HB.out]; simp; omega) _)
        have e6 : Marks B ds W0 := by rw [← hW0]; exact h4.keepD ((KeepD.alloc _ _).trans (KeepD.alloc _ _))
        have e7 : W0.heap.size = P + 2 := by rw [← hW0, hP]; simp
        have hBP : B1 < P ∧ B2 < P ∧ B1 ≠ B2 ∧ B < B1 ∧ B < B2 := ⟨by omega, by omega, by have := HB1.out; have := HB2.out; omega, by have := HB1.out; omega, by have := HB2.out; omega⟩
        rw [hW0]
        clear hW0 h1 h2 h3 h4 hP l1 l2 cS
        refine wpIn_rangeFunc_ownF rfl (by decide) (gf := 72) (lb := #[.pointer (some ⟨P + 1, 0, none⟩)]) rfl trivial (enters_of Tryz.func72 (by kernel_rfl) rfl)
          (bits1_stops 3 (by decide) (P + 1) k (by omega) W0 (by omega) (e4.cell rfl)) KpB.trans (fun W l o o' _ h ho _ => KpB.put W l o o' h ho) (Below.refl _ _) (fun _ => rfl)
          (fun pre W => (Blk W B1 (bl M fun s => if s = k then (decide ((k : Int) ∈ l) || pre.any fun x => cl l (diff k (2 ^ x.1))) else if s < k then cl l s else decide ((s : Int) ∈ l)) 4 ∧ Blk W B2 [.slice (some ⟨B1, 0, none⟩) M M] 66 ∧ Blk W P [.int .i64 k] 3) ∧ (Below B w W ∧ KeepD W0 W))
          (fun _ _ _ => False) ((ownFrom_blk.and (ownFrom_blk.and ownFrom_blk)).and ((ownFrom_below (by rw [HB.out]; exact Nat.le_refl _) (by omega)).and ownFrom_keepD)) (fun _ => ownFrom_false)
          ⟨⟨by rw [bl_congr (h := fun s => if s < k then cl l s else decide ((s : Int) ∈ l)) (fun s _ => by by_cases e : s = k <;> simp [e])]; exact e1, e2, e3⟩, e5, KeepD.refl _⟩
          (fun x => { tmps := #[.agg #[.int .i64 n, .int .i64 may, .slice sa l.length cap], .pointer (some ⟨B, 0, none⟩), .slice none 0 0, .pointer (some ⟨B2, 0, none⟩), undef, u5, .pointer (some ⟨P, 0, none⟩), .int .i64 (x.1 : Int), .pointer (some ⟨B, 0, none⟩), .int .i64 n, .int .i64 M, .slice (some ⟨B1, 0, none⟩) M M, .pointer (some ⟨B, 2, none⟩), .slice sa l.length cap, .int .i64 l.length, .int .i64 l.length, .bool false, u17, u18, u19, u20, u21, u22, .slice (some ⟨B1, 0, none⟩) M M, .int .i64 M, .int .i64 (k : Int), .bool true, .int .i64 (k : Int), .int .i64 (k : Int), .func (.func 72) #[] #[.pointer (some ⟨P + 1, 0, none⟩)], .int .i64 (x.1 : Int), undef, undef, undef, undef, undef, undef, undef, undef, undef, undef, undef, undef, undef, undef, undef, undef, p47, undef], defers := [] }) ?assign ?body ?done ?stop
        case assign =>
          intro _ x W K hK
          gi_wp2
          exact hK
        case body =>
          rintro _ pre x W ⟨⟨k1, k2, k3⟩, k4, k5⟩ hlt
          have hd : diff k (2 ^ x.1) < k := diff_lt (by omega) x.2.2
          obtain ⟨d, hdd⟩ : ∃ d, d = diff k (2 ^ x.1) := ⟨_, rfl⟩
          have hx2 : 2 ^ x.1 < 65536 := Nat.pow_lt_pow_right (n := 16) (by omega) x.2.1
          have hand : bits .andNot .i64 (k : Int) (wrap64 ((2 : Int) ^ x.1)) = (d : Int) := by
            rw [wrap_pow (by have := x.2.1; omega), Go.Ib.b_andNot k (2 ^ x.1) (by omega) (by omega), hdd]
          have HS : Hid ((pre ++ [x]).any (fun x => cl l (diff k (2 ^ x.1))) = (pre.any (fun x => cl l (diff k (2 ^ x.1))) || cl l d)) := Lib.hid (by rw [List.any_append, hdd]; simp)
          rw [← hdd] at hd
          have HD := Lib.hid hdd; clear hdd
          obtain ⟨b, hb⟩ : ∃ b, b = (decide ((k : Int) ∈ l) || pre.any fun x => cl l (diff k (2 ^ x.1))) := ⟨_, rfl⟩
          rw [← hb] at k1
          have HBb := Lib.hid hb; clear hb
          have cO : W.cell? ⟨B1, k, none⟩ = some (.bool b) := k1.cell (by rw [bl_get _ hkM, if_pos rfl])
          have cD : W.cell? ⟨B1, d, none⟩ = some (.bool (cl l d)) := k1.cell (by rw [bl_get _ (by omega), if_neg (by omega), if_pos hd])
          have cF : W.frozen? ⟨B1, k, none⟩ = false := k1.frozen k
          have cS : W.cell? ⟨B2, 0, none⟩ = some (.slice (some ⟨B1, 0, none⟩) M M) := k2.cell rfl
          have cK : W.cell? ⟨P, 0, none⟩ = some (.int .i64 k) := k3.cell rfl
          have hdi : (d : Int) < M := by omega
          obtain ⟨c, hc⟩ : ∃ c, c = cl l d := ⟨_, rfl⟩
          rw [← hc] at cD
          have HC := Lib.hid hc; clear hc
          cases b with
          | true =>
            gi_wp2
            refine SqC.wpIn_region_tail 15 (by kernel_rfl) (by kernel_rfl) (by kernel_rfl) ?_
            simp only [List.take_succ_cons, List.take_zero, List.drop_succ_cons, List.drop_zero]
            repeat (go_big_quiet_step (fail))
            refine wpQuiet_nil ?_
            intro nq2
            go_wp2
            refine ⟨(keepsOthers_drewN W nq2).trans (KeepsOthers.setCell _ _ _), KpB.set _ _ _ (by simp; omega), ⟨⟨?_, (k2.drewN nq2).set_ne _ (by simp; omega), (k3.drewN nq2).set_ne _ (by simp; omega)⟩, below_set (below_drewN k4 nq2) (by rw [HB.out]; exact Nat.le_refl _) (by omega) _ _, k5.others ((keepsOthers_drewN W nq2).trans (KeepsOthers.setCell _ _ _))⟩⟩
            have := (k1.drewN nq2).set k (.bool true)
            rw [bl_set hkM] at this
            rw [bl_congr (h := fun s => if s = k then true else if s = k then true else if s < k then cl l s else decide ((s : Int) ∈ l))]
            · exact this
            · intro s _
              by_cases e : s = k
              · rw [if_pos e, if_pos e, HS.out, ← Bool.or_assoc, ← HBb.out, Bool.true_or]
              · rw [if_neg e, if_neg e, if_neg e]
          | false =>
            gi_wp2
            refine SqC.wpIn_region_tail 15 (by kernel_rfl) (by kernel_rfl) (by kernel_rfl) ?_
            simp only [List.take_succ_cons, List.take_zero, List.drop_succ_cons, List.drop_zero]
            repeat (go_big_quiet_step (fail))
            refine wpQuiet_nil ?_
            intro nq2
            go_wp2
            refine ⟨(keepsOthers_drewN W nq2).trans (KeepsOthers.setCell _ _ _), KpB.set _ _ _ (by simp; omega), ⟨⟨?_, (k2.drewN nq2).set_ne _ (by simp; omega), (k3.drewN nq2).set_ne _ (by simp; omega)⟩, below_set (below_drewN k4 nq2) (by rw [HB.out]; exact Nat.le_refl _) (by omega) _ _, k5.others ((keepsOthers_drewN W nq2).trans (KeepsOthers.setCell _ _ _))⟩⟩
            have := (k1.drewN nq2).set k (.bool c)
            rw [bl_set hkM] at this
            rw [bl_congr (h := fun s => if s = k then c else if s = k then false else if s < k then cl l s else decide ((s : Int) ∈ l))]
            · exact this
            · intro s _
              by_cases e : s = k
              · rw [if_pos e, if_pos e, HS.out, ← Bool.or_assoc, ← HBb.out, Bool.false_or, HC.out]
              · rw [if_neg e, if_neg e, if_neg e]
        case done =>
          rintro D ys W hD rfl ⟨⟨k1, k2, k3⟩, k4, k5⟩ hK
          gi_wp2
          refine ⟨⟨k + 1, _, _, _, _, _, _, _, ⟨by omega, ?_, k2, k4, Marks.cons e6 (e6.keepD k5) hD (by omega) hK _⟩, rfl⟩, by simp [vInt]; omega⟩
          rw [bl_congr (h := fun s => if s = k then (decide ((k : Int) ∈ l) || (els k 16).any fun x => cl l (diff k (2 ^ x.1))) else if s < k then cl l s else decide ((s : Int) ∈ l))]
          · exact k1
          · intro s _
            by_cases e : s = k
            · rw [if_pos e, e, if_pos (by omega), hstep.out k hkM]
            · rw [if_neg e]
              by_cases e2 : s < k
              · rw [if_pos e2, if_pos (by omega)]
              · rw [if_neg e2, if_neg (by omega)]
        case stop =>
          rintro D c pre W _ _ h _
          exact h.elim
      · obtain rfl : k = M := by omega
        gi_wp2
        rw [bl_congr (h := cl l) (fun s hs => if_pos hs)] at h1
        have hBe := HB.out
        have hB1e := HB1.out
        refine leaves_marks (B := B) (fun W => Blk W B1 (bl k (cl l)) 4 ∧ Below B w W) (fun W D hJ hD hK => ⟨hJ.1.kept (grownBy_putObj' W D _) (fun r e => by cases e; exact ⟨_, hK, rfl⟩), ?_⟩) (fun W hJ => ⟨_, results_tmp rfl _ _ _, B1, by omega, rfl, hJ.1, ?_⟩) ds wr h4 ⟨h1, h3⟩
        · have := hJ.2.trans (belowK_b (w := w) (n₀ := B) (by omega) W D _ (.deferred none) (by omega) hK rfl rfl)
          exact this
        · rw [← hBe]; exact hJ.2
end Go.Proofs.YtkccmpikeekceaaGreat
end
