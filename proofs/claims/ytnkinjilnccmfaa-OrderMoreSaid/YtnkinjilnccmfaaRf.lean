/- Helpers for a range over a function: blocks known whole as invariants; what a round keeps. -/
import Derived.Test.YtnkinjilnccmfaaSqI
import Derived.Test.YtnkinjilnccmfaaOw
import Derived.RangeFuncNested
import Derived.RangeFuncBound
import Derived.RangeFuncLeaves
namespace Go.Own
open Go.RowKit
theorem Blk.kept {W W' : World} {g : Nat} {l : List Value} {t : TypeId} {row : Option Nat} (h : Blk W g l t) (hg : W.grownBy W' row) (hr : ∀ r, row = some r → ∃ o : Obj, W.heap[r]? = some o ∧ o.isCells = false) : Blk W' g l t := by
  unfold Blk at h ⊢
  rw [grownBy_keeps_cells hg hr h rfl]; exact h
theorem ownFrom_blk {β : Type} {B g : Nat} {l : β → List Value} {t : TypeId} : OwnFrom B (fun (s : β) W => Blk W g (l s) t) :=
  fun _ _ _ _ h hg hr => h.kept hg fun r e => (hr r e).2
theorem ownFrom_false {β : Type} {B : Nat} : OwnFrom B (fun (_ : β) _ => False) := fun _ _ _ _ h _ _ => h
theorem keepsOthers_drewN (W : World) (m : Nat) : KeepsOthers W (W.drewN m) := ⟨Nat.le_refl _, fun _ _ h _ => h⟩
/-- Blocks that the loops of an activation left behind for deferred calls: all are empty, each stands once. -/
def Marks (B : Nat) : List Deferred → World → Prop
  | [], _ => True
  | d :: ds, W => ∃ D, d.target = .collected D ∧ B ≤ D ∧ W.heap[D]? = some (.deferred (some [])) ∧ Marks B ds W ∧ ∀ d' ∈ ds, ∀ D', d'.target = .collected D' → D' < D
theorem Marks.mono {B : Nat} : ∀ {ds : List Deferred} {W W' : World}, Marks B ds W → (∀ D, B ≤ D → W.heap[D]? = some (.deferred (some [])) → W'.heap[D]? = some (.deferred (some []))) → Marks B ds W'
  | [], _, _, _, _ => trivial
  | _ :: _, _, _, ⟨D, h1, h2, h3, h4, h5⟩, h => ⟨D, h1, h2, h D h2 h3, h4.mono h, h5⟩
theorem Marks.lt {B : Nat} : ∀ {ds : List Deferred} {W : World}, Marks B ds W → ∀ d ∈ ds, ∀ D, d.target = .collected D → D < W.heap.size
  | [], _, _, d, h, _, _ => by cases h
  | d0 :: ds, W, ⟨D, h1, h2, h3, h4, h5⟩, d, h, D', e => by
    rcases List.mem_cons.1 h with rfl | h
    · rw [h1] at e; injection e with e; subst e
      exact (Array.getElem?_eq_some_iff.1 h3).1
    · exact h4.lt d h D' e
theorem Marks.cons {B D : Nat} {ds : List Deferred} {W0 W : World} (h0 : Marks B ds W0) (h : Marks B ds W) (hD : W0.heap.size ≤ D) (hB : B ≤ D) (hK : W.heap[D]? = some (.deferred (some []))) (args : Array Value) : Marks B ({ target := .collected D, args := args } :: ds) W :=
  ⟨D, rfl, hB, hK, h, fun d' hd D' e => Nat.lt_of_lt_of_le (h0.lt d' hd D' e) hD⟩
theorem Marks.other {B D : Nat} : ∀ {ds : List Deferred} {W : World} {o : Obj}, Marks B ds W → (∀ d' ∈ ds, ∀ D', d'.target = .collected D' → D' < D) → Marks B ds (W.putObj D o)
  | [], _, _, _, _ => trivial
  | d :: ds, W, o, ⟨D', h1, h2, h3, h4, h5⟩, h => ⟨D', h1, h2, (World.putObj_heap_other (by have := h d List.mem_cons_self D' h1; omega)).trans h3, h4.other fun d' hd => h d' (List.mem_cons_of_mem _ hd), h5⟩
/-- A function leaves over its marks. J: what is kept while the marks are taken up. -/
theorem leaves_marks {P : Program} {n B : Nat} {fn : Func} {tmps : Array Value} {R : Ending → World → Prop} (J : World → Prop)
    (hJ : ∀ W D, J W → B ≤ D → W.heap[D]? = some (.deferred (some [])) → J (W.putObj D (.deferred none)))
    (hR : ∀ W, J W → LeavesInM Fence.wide n P fn tmps R [] .returning W) : ∀ (ds : List Deferred) (W : World), Marks B ds W → J W → LeavesInM Fence.wide n P fn tmps R ds .returning W
  | [], W, _, hj => hR W hj
  | d :: ds, W, ⟨D, h1, h2, h3, h4, h5⟩, hj =>
    ⟨by simp, .inl ⟨D, _, h1, run_takeDeferred h3, leaves_marks J hJ hR ds _ (h4.other h5) (hJ W D hj h2 h3)⟩⟩
/-- Blocks for deferred calls lie as they lay. -/
def KeepD (W0 W : World) : Prop := ∀ (D : Nat) (o : Option (List Deferred)), W0.heap[D]? = some (Obj.deferred o) → W.heap[D]? = some (Obj.deferred o)
theorem KeepD.refl (W : World) : KeepD W W := fun _ _ h => h
theorem KeepD.others {W0 W W' : World} (h : KeepD W0 W) (k : KeepsOthers W W') : KeepD W0 W' := fun D o hD => k.same D _ (h D o hD) rfl
theorem KeepD.trans {A B C : World} (h : KeepD A B) (k : KeepD B C) : KeepD A C := fun D o hD => k D o (h D o hD)
theorem KeepD.alloc (W : World) (o : Obj) : KeepD W (W.alloc o) := (KeepD.refl W).others (KeepsOthers.alloc W o)
theorem ownFrom_keepD {β : Type} {W0 : World} : OwnFrom W0.heap.size (fun (_ : β) W => KeepD W0 W) := fun _ W W' row h hg hr D o hD => by
  have h1 := h D o hD
  have h2 : D < W0.heap.size := (Array.getElem?_eq_some_iff.1 hD).1
  rw [hg.block D (Array.getElem?_eq_some_iff.1 h1).1 (fun e => by have := (hr D e.symm).1; omega)]
  exact h1
theorem Marks.keepD {B : Nat} {ds : List Deferred} {W W' : World} (h : Marks B ds W) (k : KeepD W W') : Marks B ds W' := h.mono fun D _ hD => k D _ hD
/-- An append leaves whatever is no cells. -/
theorem own_keeps {w w' : World} {base size n : Nat} {e : TypeId} {v : Value} {xs : List Value} (h : w.ownsRow base e size v n xs) (hg : w.grownBy w' v.ownBlock) : KeepsOthers w w' := by
  refine KeepsOthers.of_grownBy hg fun j o hj ho => ?_
  obtain ⟨_, ⟨rfl, _⟩ | ⟨g, cap, cur, rfl, _, hgg, _⟩⟩ := h
  · cases hj
  · injection hj with hj
    subst hj
    have : some o = some _ := ho.symm.trans hgg
    injection this with this
    subst this
    rfl
/-- A row of one's own abides a turn of a block that holds no cells. -/
theorem own_put {W : World} {base size n D : Nat} {e : TypeId} {v : Value} {xs : List Value} {o : Obj} (o' : Obj) (h : W.ownsRow base e size v n xs) (hD : W.heap[D]? = some o) (ho : o.isCells = false) : (W.putObj D o').ownsRow base e size v n xs := by
  refine ⟨h.1, ?_⟩
  rcases h.2 with hn | ⟨g, cap, cur, rfl, hg, hgg, rest⟩
  · exact .inl hn
  · refine .inr ⟨g, cap, cur, rfl, hg, ?_, rest⟩
    rw [World.putObj_heap_other]
    · exact hgg
    · rintro rfl
      rw [hD] at hgg
      injection hgg with hgg
      subst hgg
      cases ho
theorem own_kept {W W' : World} {base size n : Nat} {e : TypeId} {v : Value} {xs : List Value} {row : Option Nat} (h : W.ownsRow base e size v n xs) (hg : W.grownBy W' row) (hr : ∀ r, row = some r → ∃ o : Obj, W.heap[r]? = some o ∧ o.isCells = false) : W'.ownsRow base e size v n xs := by
  refine ⟨h.1, ?_⟩
  rcases h.2 with hn | ⟨g, cap, cur, rfl, hb, hgg, rest⟩
  · exact .inl hn
  · exact .inr ⟨g, cap, cur, rfl, hb, (grownBy_keeps_cells hg hr hgg rfl).trans hgg, rest⟩
theorem results_cells2 {P : Program} {fn : Func} {p q : Tmp} {s t : TypeId} (h : fn.results = #[.cell p s, .cell q t]) {tmps : Array Value} {w : World} {a b : Addr} {u v : Value}
    (hp : tmps.getD p undef = .pointer (some a)) (hq : tmps.getD q undef = .pointer (some b)) (hu : (loadVar s a).run P w = .ok u w) (hv : (loadVar t b).run P w = .ok v w) :
    (results fn tmps).run P w = .ok (.tuple #[u, v]) w := by
  simp only [results, h]
  rw [Array.getD_eq_getD_getElem?] at hp hq
  simp [asAddr, hp, hq, hu, hv, Sem.run_bind]
theorem run_store_func {P : Program} {w : World} {a : Addr} {m : Mode} (f : Fn) (x y : Array Value) : (store a (.func f x y) m).run P w = stored P w a (.func f x y) m := run_store P w a _ m rfl
/-- A call of a closure. -/
theorem yields_closure {P : Program} {o : Oper} {ρ : Operand → Value} {w : World} {R : Value → World → Prop} {f : FuncId} {lb : Array Value} {x : Operand} {xs : Array Operand} {ts : Array TypeId} {args : Array Value} (ho : o.op = .call { callee := .value x, args := xs, argTypes := ts })
    (hf : (P.funcs[f]?).map (fun fn => (fn.name == "runtime.NumGoroutine", fn.body.isNone)) = some (false, false)) (hfn : ρ x = .func (.func f) #[] lb) (ha : xs.toList.map ρ = args.toList) (hc : Calls P f (args ++ lb) w fun e w' => ∃ v, e = .returned v ∧ R v w') : Yields P o ρ w R := by
  have ha' : xs.map ρ = args := by
    apply Array.toList_inj.1
    rw [Array.toList_map]; exact ha
  have hr : (execOp ρ o).run P w = .ok (.enter f (args ++ lb)) w := by
    unfold execOp
    simp only [ho, resolve, hfn, Deferred.ofValue, ha']
    simp [invoke, run_callFunc hf]
  unfold Yields
  rw [hr]
  exact hc
theorem below_others {W W' : World} (h : Below W.heap.size W W') : KeepsOthers W W' := ⟨h.size, fun k o hk _ => (h.block k (Array.getElem?_eq_some_iff.1 hk).1).trans hk⟩
/-- A row of one's own abides a store elsewhere. -/
theorem own_set {w : World} {base size n : Nat} {e : TypeId} {v : Value} {xs : List Value} {a : Addr} {u : Value} (h : w.ownsRow base e size v n xs) (hne : ∀ b, v.ownBlock = some b → b ≠ a.block) : (w.setCell a u).ownsRow base e size v n xs := by
  refine ⟨h.1, ?_⟩
  rcases h.2 with hn | ⟨g, cap, cur, rfl, hb, hgg, rest⟩
  · exact .inl hn
  · exact .inr ⟨g, cap, cur, rfl, hb, (Below.heap_setCell w a u g (hne g rfl)).trans hgg, rest⟩
end Go.Own
