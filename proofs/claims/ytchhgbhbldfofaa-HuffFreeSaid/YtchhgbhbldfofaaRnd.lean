/-
  A range over a function, at no fence: what an iterator that is known whole promises ('SeqX'), the law of the statement over it ('wp_range'), and the road from a walk outside of rounds to one inside ('wpListIn_of', 'wpAnyIn_of'). No program is in sight here.
-/
import Derived.Test.YtchhgbhbldfofaaSep
import Derived.Test.YtchhgbhbldfofaaReg
import Derived.RangeFuncLeaves
import Derived.RangeFuncRecord
import Derived.RangeFuncSeq
import Derived.OrdersIn
namespace Go.Proofs.Ytchhgbhbldfofaa
open Go.RowKit

section
variable {P : Program}

/-! ### Inside a round, at no fence -/
@[simp, go_sem] theorem wide_fn (f : FuncId) : Fence.wide.fn f = True := rfl
@[simp, go_sem] theorem wide_depth : Fence.wide.depth = none := rfl
abbrev rnd (l : Nat) : Fence := Fence.wide.inRound l

theorem callsIn_rnd {l n : Nat} {f : FuncId} {args : Array Value} {w : World} {R : Ending → World → Prop} (h : Calls P f args w R) : CallsIn (rnd l) n P f args w R :=
  (callsIn_wide (n := n)).2 h
theorem rowsIn_rnd {l n : Nat} {row : String} {args : Array Value} {w : World} {R : Value → World → Prop} (h : Rows P row args w R) : RowsIn (rnd l) n P row args w R := fun c cs _ => by
  obtain ⟨v, w', hr, hs⟩ := h c cs
  exact ⟨v, w', hr, stepsIn_wide.2 hs⟩

def noDefer (o : Oper) : Bool := match o.op with | .defer _ => false | _ => true

theorem operIn_of {l n : Nat} {o : Oper} {a : Go.Act} {w : World} {next : Go.Act → World → Prop} {Q : Exit → Go.Act → World → Prop} (hd : noDefer o = true) (h : o.wp P a w next Q) : o.wpIn (rnd l) n P a w next Q := by
  refine ⟨fun _ _ => trivial, ?_⟩
  rw [Oper.semAt_eq _ _ _ (fun c e => by simp [noDefer, e] at hd)]
  unfold Oper.wp at h
  generalize (execOp a.eval o).run P w = r at h
  cases r with
  | ok x w' =>
    cases x <;> first
      | exact h
      | exact ⟨fun q => by simp [Fence.wide] at q, callsIn_rnd (Calls.mono h (fun e w'' he => by cases e <;> exact he))⟩
      | exact ⟨fun q => by simp [Fence.wide] at q, rowsIn_rnd h⟩
      | exact h.elim
  | halt x w' => cases x <;> exact h

theorem wpListIn_of {l n : Nat} {ops : Array Oper} {Q : Exit → Go.Act → World → Prop} (hL : ¬ LetsOut Q) : ∀ (L : List Oper), L.all noDefer = true → ∀ (a : Go.Act) (w : World), wpList P ops Q L a w → wpListIn (rnd l) n P ops Q L a w := by
  intro L
  induction L with
  | nil => exact fun _ a w h => h
  | cons o L ih =>
    intro hd a w h
    simp only [List.all_cons, Bool.and_eq_true] at hd
    unfold wpList at h
    unfold wpListIn
    by_cases hw : Region.wanted o (yielded ops a.tmps) = true
    · simp only [hw, if_true] at h ⊢
      rcases h with h | h
      · exact operIn_of hd.1 (Oper.wp_mono (fun a w h => ih hd.2 a w h) h)
      · exact absurd h.2 hL
    · simp only [hw] at h ⊢
      exact ⟨fun _ _ => trivial, ih hd.2 _ _ h⟩

theorem wpOpIn_of {l n : Nat} {ops : Array Oper} {Q : Exit → Go.Act → World → Prop} (hL : ¬ LetsOut Q) (hd : ops.toList.all noDefer = true) {i : Nat} {K : Go.Act → World → Prop} {a : Go.Act} {w : World} (h : wpOp P ops Q i K a w) : wpOpIn (rnd l) n P ops Q i K a w := by
  unfold wpOp at h
  unfold wpOpIn
  cases ho : ops[i]? with
  | none => simp only [ho] at h ⊢; exact h
  | some o =>
    simp only [ho] at h ⊢
    by_cases hw : Region.wanted o (yielded ops a.tmps) = true
    · simp only [hw, if_true] at h ⊢
      rcases h with h | h
      · exact operIn_of (List.all_eq_true.1 hd o (by have := Array.mem_of_getElem? ho; simpa using this)) h
      · exact absurd h.2 hL
    · simp only [hw] at h ⊢
      exact ⟨fun _ _ => trivial, h⟩

theorem wpAnyIn_of {l n : Nat} {md : Region.Mode} {ops : Array Oper} {Q : Exit → Go.Act → World → Prop} (hL : ¬ LetsOut Q) (hd : ops.toList.all noDefer = true) : ∀ (f : Nat) (listed : Array Bool) (a : Go.Act) (w : World), wpAny P md ops Q f listed a w → wpAnyIn (rnd l) n P md ops Q f listed a w := by
  intro f
  induction f with
  | zero => exact fun _ _ _ h => h
  | succ f ih => exact fun listed a w h => ⟨h.1, fun i hi => wpOpIn_mono (fun a w h => ih _ a w h) (wpOpIn_of hL hd (h.2 i hi))⟩

theorem wpListIn_hid {l n : Nat} {ops : Array Oper} {Q : Exit → Go.Act → World → Prop} {L : List Oper} {a : Go.Act} {w : World} (hL : ¬ LetsOut Q) (hd : L.all noDefer = true) (h : RowKit.Hid (wpList P ops Q L a w)) : wpListIn (rnd l) n P ops Q L a w :=
  wpListIn_of hL L hd a w h.out
/-- a plain region in a round -/
theorem rnd_region {l n id : Nat} {L : List Oper} {Q : Exit → Go.Act → World → Prop} {a : Go.Act} {w : World} (hd : L.all noDefer = true) (hL : ¬ LetsOut Q) (h : wpList P L.toArray Q L a w) : (Code.region id L.toArray false).wpIn (rnd l) n P Q a w :=
  wpIn_region_lit (wpListIn_of hL L hd a w h)
/-- a region that draws, in a round -/
theorem rnd_any {l n id : Nat} {L : List Oper} {Q : Exit → Go.Act → World → Prop} {a : Go.Act} {w : World} (hm : P.follows .mixedOrders = true) (hd : L.all noDefer = true) (hL : ¬ LetsOut Q)
    (h : wpAny P .any L.toArray Q L.toArray.size (Array.replicate L.toArray.size false) a { w with drawn := w.drawn + 1 }) : (Code.region id L.toArray true).wpIn (rnd l) n P Q a w :=
  wpIn_region_any hm (wpAnyIn_of hL (by simpa using hd) _ _ _ _ h)

/-- a region that draws, in a round: reads, changes of the world, a forced tail -/
theorem rnd_mid {lr k id : Nat} {l : List Oper} {C : World → Prop} {Q : Exit → Go.Act → World → Prop} {a : Go.Act} {w : World} (n r : Nat) (hm : P.follows .mixedOrders = true) (hB : midB l.toArray n r = true) (hd : l.all noDefer = true) (hL : ¬ LetsOut Q) (hC : C { w with drawn := w.drawn + 1 })
    (h : wpQuiet P l.toArray C (fun a' => midW P l.toArray (NoPanic Q) C (l.drop (n + r)) ((l.drop n).take r) a' w.drew) (l.take n) a) : (Code.region id l.toArray true).wpIn (rnd lr) k P Q a w :=
  wpIn_mono (rnd_any (Q := NoPanic Q) hm hd (fun ⟨a, w, h⟩ => hL ⟨a, w, h⟩) (wpAny_mid n r hB hC h)) NoPanic.imp
/-- blocks that are there -/
def Ob.room (l : List Nat) : Ob where
  F := l
  P := fun w => ∀ k ∈ l, k < w.heap.size
  ok := fun h hx _ k hk => Nat.lt_of_lt_of_le (h k hk) hx.size
  lt := fun h => h
/-- a plain region that calls yield, outside of rounds: from here on by 'gi_wp2' -/
theorem wp_region_in {id : Nat} {L : List Oper} {Q : Exit → Go.Act → World → Prop} {a : Go.Act} {w : World} (h : RowKit.Hid (wpListIn Fence.wide 0 P L.toArray Q L a w)) : (Code.region id L.toArray false).wp P Q a w :=
  (wpIn_wide (n := 0)).1 (wpIn_region_lit h.out)

/-! ### What an iterator promises -/
/-- The blocks of T lie as they lay. -/
structure KeepsT (T : List Nat) (W W' : World) : Prop where
  size : W.heap.size ≤ W'.heap.size
  same : ∀ k ∈ T, W'.heap[k]? = W.heap[k]?

theorem KeepsT.trans {T : List Nat} {A B C : World} (h : KeepsT T A B) (k : KeepsT T B C) : KeepsT T A C := ⟨Nat.le_trans h.size k.size, fun i hi => (k.same i hi).trans (h.same i hi)⟩
theorem KeepsT.of_ext {S T : List Nat} {A B : World} (h : Ext S A B) (hT : ∀ k ∈ T, k < A.heap.size ∧ k ∉ S) : KeepsT T A B := ⟨h.size, fun k hk => h.block k (hT k hk).1 (hT k hk).2⟩

/-- The iterator gf at the bindings lb yields xs, one by one; T: the blocks that it turns, which lay ahead of its call; Kb: those that a round must keep; St: what it finds when it is called. -/
def SeqX {α : Type} (P : Program) (gf : Nat) (lb : Array Value) (encs : α → Array Value) (xs : List α) (T Kb : List Nat) (St : World → Prop) : Prop :=
  ∀ (l : Nat) (J Jx : List α → World → Prop) (W : World), St W →
    (∀ p A B, J p A → Ext T A B → J p B) → (∀ p A B, Jx p A → Ext T A B → Jx p B) →
    (∀ pre x post W1, xs = pre ++ x :: post → J pre W1 → YieldAt Fence.wide 0 P l (encs x) W1 fun e W' =>
      (e = .returned (.bool true) ∧ J (pre ++ [x]) W' ∧ KeepsT Kb W1 W') ∨ (e = .returned (.bool false) ∧ Jx (pre ++ [x]) W')) →
    J [] W →
    CallsIn Fence.wide 0 P gf (#[.func (.yield l) #[] #[]] ++ lb) W fun e W' => (∃ v, e = .returned v) ∧ (J xs W' ∨ ∃ pre x post, xs = pre ++ x :: post ∧ Jx (pre ++ [x]) W')

/-- How a round's body may be left. -/
def roundGo {α : Type} (Kb : List Nat) (I : List α → World → Prop) (Ix : Code → List α → World → Prop) (D L : Nat) (xs : List α) (W : World) : Exit → Go.Act → World → Prop
  | .normal, _, W' => KeepsT (D :: L :: Kb) W W' ∧ I xs W'
  | .ret, _, W' => KeepsT [D, L] W W' ∧ Ix .ret xs W'
  | .exit id, _, W' => KeepsT [D, L] W W' ∧ Ix (.exit id) xs W'
  | .goto t, _, W' => KeepsT [D, L] W W' ∧ Ix (.goto t) xs W'
  | .panic _, _, _ => False
  | .outgrown, _, _ => False

theorem Ext.putObj (W : World) (l : Nat) (o : Obj) : Ext [l] W (W.putObj l o) :=
  ⟨rfl, rfl, rfl, by simp, fun k _ hk => World.putObj_heap_other (by simpa using hk)⟩

/-- 'for .. := range g { .. }', g's iterator being known whole. D: the block for the rounds' deferred calls, L: the loop's record, both new. -/
theorem wp_range {α : Type} {g : Operand} {ps : Array Tmp} {assign body : Code} {Q : Exit → Go.Act → World → Prop} {a : Go.Act} {w : World}
    {gf : Nat} {lb : Array Value} (hg : a.eval g = .func (.func gf) #[] lb) (eg : ∀ args w, (callFunc gf args).run P w = .ok (.enter gf args) w)
    {encs : α → Array Value} {xs : List α} {T Kb : List Nat} {St : World → Prop} (hseq : SeqX P gf lb encs xs T Kb St) (hps : ∀ x, (encs x).size = ps.size)
    (D L : Nat) (hD : w.heap.size = D) (hL : w.heap.size + 1 = L) (hT : ∀ k ∈ T, k < w.heap.size) (hK : ∀ k ∈ Kb, k < w.heap.size)
    (hSt : ∀ W, Ext [] w W → St W)
    (I : List α → World → Prop) (Ix : Code → List α → World → Prop) (hI : ∀ p A B, I p A → Ext (D :: L :: T) A B → I p B) (hIx : ∀ c p A B, Ix c p A → Ext (D :: L :: T) A B → Ix c p B)
    (h0 : ∀ W, Ext [] w W → W.heap.size = w.heap.size + 2 → I [] W) (a₁ : α → Go.Act)
    (hassign : ∀ (x : α) (W : World) (K : Go.Act → World → Prop), K (a₁ x) W →
      assign.wpIn (rnd L) 0 P (Exit.then K (fun _ _ _ => False)) { tmps := (ps.zip (encs x)).foldl (fun t (p, v) => t.setIfInBounds p v) a.tmps, defers := [] } W)
    (hbody : ∀ (pre : List α) (x : α) (post : List α) (W : World), xs = pre ++ x :: post → I pre W → body.wpIn (rnd L) 0 P (roundGo Kb I Ix D L (pre ++ [x]) W) (a₁ x) W)
    (hdone : ∀ (W : World), I xs W → W.heap[D]? = some (.deferred (some [])) → Q .normal { a with defers := { target := .collected D, args := #[] } :: a.defers } W)
    (hstop : ∀ (c : Code) (pre : List α) (x : α) (post : List α) (W : World), xs = pre ++ x :: post → Ix c (pre ++ [x]) W → W.heap[D]? = some (.deferred (some [])) → c.wp P Q { a with defers := { target := .collected D, args := #[] } :: a.defers } W) :
    (Code.rangeFunc g ps assign body).wp P Q a w := by
  refine (wpIn_wide (n := 0)).1 (wpIn_rangeFunc ?_)
  intro fn hfn
  obtain ⟨rec, hrec⟩ : ∃ rec : LoopState → Option Code → Loop, rec = fun st pe => { state := st, pending := pe, fn, tmps := a.tmps, params := ps, assign, body, defers := w.heap.size } := ⟨_, rfl⟩
  obtain ⟨W1, hW1⟩ : ∃ W1, (w.alloc (.deferred (some []))).alloc (.loop (rec .ready none)) = W1 := ⟨_, rfl⟩
  have hDL : D ≠ L := by omega
  have hx1 : Ext [] w W1 := by rw [← hW1]; exact ((Ext.refl [] w).alloc _).alloc _
  have hs1 : W1.heap.size = w.heap.size + 2 := by rw [← hW1]; simp
  have hL1 : W1.heap[L]? = some (.loop (rec .ready none)) := by
    rw [← hW1, ← hL]; have := World.alloc_heap_new (w.alloc (.deferred (some []))) (.loop (rec .ready none)); rwa [World.size_alloc] at this
  have hK1 : W1.heap[D]? = some (.deferred (some [])) := by
    rw [← hW1, ← hD]; exact (Below.heap_alloc _ _ _ (by simp)).trans (World.alloc_heap_new w _)
  have hTD : D ∉ T := fun q => by have := hT D q; omega
  have hTL : L ∉ T := fun q => by have := hT L q; omega
  have hKD : D ∉ Kb := fun q => by have := hK D q; omega
  have hKL : L ∉ Kb := fun q => by have := hK L q; omega
  have weak : ∀ {A B : World}, Ext T A B → Ext (D :: L :: T) A B := fun h => h.mono (fun i _ hi => by simp [hi])
  have wl : ∀ {A : World} {o : Obj}, Ext (D :: L :: T) A (A.putObj L o) := fun {A o} => (Ext.putObj A L o).mono (fun i _ hi => by simp at hi; simp [hi])
  refine ⟨L, [{ target := .collected D, args := #[] }], W1, { target := .fn (.func gf) lb, args := #[.func (.yield L) #[] #[]] }, W1, gf,
    #[.func (.yield L) #[] #[]] ++ lb, W1, ?_, ?_, fun _ _ => trivial, ?_, fun q => by simp [Fence.wide] at q, ?_⟩
  · rw [← hW1, hrec, ← hD, ← hL]; exact run_enterLoop_outer _ _ _ _ _
  · simp only [resolve, hg]
    simp [go_sem]
  · simp [invoke, go_sem, eg]
  · refine (hseq L
      (fun pre W => I pre W ∧ W.heap[L]? = some (.loop (rec .ready none)) ∧ W.heap[D]? = some (.deferred (some [])))
      (fun pre W => ∃ c, Ix c pre W ∧ W.heap[L]? = some (.loop (rec .done (some c))) ∧ W.heap[D]? = some (.deferred (some [])))
      W1 (hSt _ hx1)
      (fun p A B h hx => ⟨hI _ _ _ h.1 (weak hx), hx.keep h.2.1 hTL, hx.keep h.2.2 hTD⟩)
      (fun p A B h hx => by obtain ⟨c, h1, h2, h3⟩ := h; exact ⟨c, hIx _ _ _ _ h1 (weak hx), hx.keep h2 hTL, hx.keep h3 hTD⟩)
      ?_ ⟨h0 _ hx1 hs1, hL1, hK1⟩).mono ?_
    · rintro pre x post W hxs ⟨hi, hl, hk⟩
      have hlt : L < W.heap.size := lt_of_block hl
      have hy := run_yield (P := P) (args := encs x) hl (by rw [hrec]; exact hps x)
      rw [hrec] at hy
      refine ⟨fn, _, assign, body, hy, roundIn_of_wpIn hfn (hassign x W _ ⟨_, run_beginRound hl (by rw [hrec]), ?_⟩)⟩
      obtain ⟨V, hV⟩ : ∃ V, W.putObj L (.loop { rec .ready none with state := .busy }) = V := ⟨_, rfl⟩
      rw [hV]
      have hv : Ext [L] W V := by rw [← hV]; exact Ext.putObj _ _ _
      have hl2 : V.heap[L]? = some (.loop { rec .ready none with state := .busy }) := by rw [← hV]; exact World.putObj_heap_same hlt
      have hk2 : V.heap[D]? = some (.deferred (some [])) := hv.keep hk (by simpa using hDL)
      have hi2 : I pre V := hI _ _ _ hi (by rw [← hV]; exact wl)
      refine wpIn_mono (hbody pre x post V hxs hi2) ?_
      have fin : ∀ (jump : Option Code) (W3 : World), KeepsT [D, L] V W3 →
          (Instr.endRound L jump).run P W3 = .ok (.bool jump.isNone) (W3.putObj L (.loop (rec (if jump.isNone then .ready else .done) jump))) ∧
          (W3.putObj L (.loop (rec (if jump.isNone then .ready else .done) jump))).heap[L]? = some (.loop (rec (if jump.isNone then .ready else .done) jump)) ∧
          (W3.putObj L (.loop (rec (if jump.isNone then .ready else .done) jump))).heap[D]? = some (.deferred (some [])) := fun jump W3 hk3 => by
        have hl3 := (hk3.same L (by simp)).trans hl2
        have hd3 := (hk3.same D (by simp)).trans hk2
        have := run_endRound (P := P) jump hl3
        rw [hrec] at this ⊢
        exact ⟨this, World.putObj_heap_same (lt_of_block hl3), (World.putObj_heap_other hDL).trans hd3⟩
      rintro e a3 W3 hp
      cases e with
      | normal =>
        obtain ⟨hk3, hi3⟩ := hp
        obtain ⟨hr, hl4, hk4⟩ := fin none W3 ⟨hk3.size, fun k hk => hk3.same k (by simp at hk ⊢; rcases hk with h | h <;> simp [h])⟩
        refine ⟨_, _, hr, .inl ⟨rfl, ⟨hI _ _ _ hi3 wl, hl4, hk4⟩, ?_⟩⟩
        have f1 : ∀ k ∈ Kb, k ≠ L := fun k hk e => hKL (e ▸ hk)
        exact ⟨by have := hv.size; have := hk3.size; simp; omega, fun k hk => ((World.putObj_heap_other (f1 k hk)).trans (hk3.same k (by simp [hk]))).trans (by rw [← hV]; exact World.putObj_heap_other (f1 k hk))⟩
      | ret =>
        obtain ⟨hk3, hi3⟩ := hp
        obtain ⟨hr, hl4, hk4⟩ := fin (some .ret) W3 hk3
        exact ⟨_, _, hr, .inr ⟨rfl, .ret, hIx _ _ _ _ hi3 wl, hl4, hk4⟩⟩
      | exit id =>
        obtain ⟨hk3, hi3⟩ := hp
        obtain ⟨hr, hl4, hk4⟩ := fin (some (.exit id)) W3 hk3
        exact ⟨_, _, hr, .inr ⟨rfl, .exit id, hIx _ _ _ _ hi3 wl, hl4, hk4⟩⟩
      | goto t =>
        obtain ⟨hk3, hi3⟩ := hp
        obtain ⟨hr, hl4, hk4⟩ := fin (some (.goto t)) W3 hk3
        exact ⟨_, _, hr, .inr ⟨rfl, .goto t, hIx _ _ _ _ hi3 wl, hl4, hk4⟩⟩
      | panic ch => exact hp.elim
      | outgrown => exact hp.elim
    · rintro e W2 ⟨⟨v, rfl⟩, (⟨hi, hl, hk⟩ | ⟨pre, x, post, hxs, c, hi, hl, hk⟩)⟩
      · exact ⟨none, _, by have := run_endLoop (P := P) hl (by rw [hrec]; simp); rw [hrec] at this; exact this, hdone _ (hI _ _ _ hi wl) ((World.putObj_heap_other hDL).trans hk)⟩
      · exact ⟨some c, _, by have := run_endLoop (P := P) hl (by rw [hrec]; simp); rw [hrec] at this; exact this, (wpIn_wide (n := 0)).2 (hstop c pre x post _ hxs (hIx _ _ _ _ hi wl) ((World.putObj_heap_other hDL).trans hk))⟩
end
end Go.Proofs.Ytchhgbhbldfofaa
