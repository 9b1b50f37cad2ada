/-
  Two theorems on regions that draw their order, for this seat's walks: (B) operations that only read and quiet calls, then a forced tail; (C) operations that only read (no call), a forced chain of operations that change the world in between, then a forced tail. No program is in sight here.
-/
import Derived.Test.YtchhgbhbldfofaaBase
import Derived.StillTail
import Derived.OrdersHeld
import Derived.Deep.RegionHeld3
namespace Go.Proofs.Ytchhgbhbldfofaa
open Go.RowKit
section
variable {P : Program} {ops : Array Oper} {md : Region.Mode} {C : World → Prop} {Q : Exit → Act → World → Prop}

/-! ### (B) -/
/-- Whatever order is picked, as long as one of the first m operations is still to come. -/
def anyB (P : Program) (md : Region.Mode) (ops : Array Oper) (C : World → Prop) (m : Nat) (L : Array Bool → Act → Prop) : Nat → Array Bool → Act → Prop
  | 0, listed, a => L listed a
  | f + 1, listed, a => Region.ready md ops listed ≠ [] ∧ ∀ i ∈ Region.ready md ops listed, i < m ∧ qOp P ops C i (anyB P md ops C m L f (listed.setIfInBounds i true)) a

theorem wpAny_of_anyB {m g : Nat} {L : Array Bool → Act → Prop} (hL : ∀ listed a w, C w → L listed a → wpAny P md ops Q g listed a w) :
    ∀ (f : Nat) (listed : Array Bool) (a : Act) (w : World), C w → anyB P md ops C m L f listed a → wpAny P md ops Q (f + g) listed a w := by
  intro f
  induction f with
  | zero => intro listed a w hw h; rw [Nat.zero_add]; exact hL _ _ _ hw h
  | succ f ih =>
    intro listed a w hw h
    rw [show f + 1 + g = (f + g) + 1 by omega]
    refine ⟨fun h0 => absurd h0 h.1, fun i hi => ?_⟩
    exact wpOp_of_qOp hw (fun a' w' hw' h' => ih _ a' w' hw' h') (h.2 i hi).2

theorem not_after {listed : Array Bool} {i : Nat} {oj : Oper} (hi : listed.getD i true = false) (hall : ∀ e ∈ oj.after, Region.binds md e = true → listed.getD e.on false = true) :
    ∀ e ∈ oj.after, Region.binds md e = true → e.on ≠ i := fun e he hb heq => by
  have h1 := hall e he hb
  rw [heq, getD_both hi] at h1
  cases h1

theorem anyB_first {m i : Nat} {oi : Oper} {v : Value} {L : Array Bool → Act → Prop} (hi : ops[i]? = some oi) (hsel : ∀ (j : Nat) (o : Oper) cs b, ops[j]? = some o → o.op ≠ .select cs b)
    (hs : Region.sinkB md ops m = true) (hc : Region.chainB md ops m = true) (hm : m < ops.size) (him : i < m)
    (hdone : ∀ listed a, L listed a → ∀ j ∈ Region.ready md ops listed, m ≤ j) :
    ∀ (f : Nat) (listed : Array Bool) (a : Act), HeadInv md ops m listed →
      (∀ j oj, ops[j]? = some oj → j ≠ i → listed.getD j true = false → (∀ e ∈ oj.after, Region.binds md e = true → e.on ≠ i) → oi.apart ops oj = true) →
      i ∈ Region.ready md ops listed → YieldsIn P ops C oi v a →
      anyB P md ops C m L f (listed.setIfInBounds i true) (a.put oi.dst v) → anyB P md ops C m L (f + 1) listed a := by
  intro f
  induction f with
  | zero =>
    intro listed a inv _ hr hy H
    have hun := (mem_ready.1 hr).1
    refine ⟨fun h => (by rw [h] at hr; cases hr), fun j hj => ?_⟩
    have hjm : j < m := Nat.lt_of_not_le fun h => tail_waits hs hc hm inv _ i rfl him hun j h hj
    by_cases hji : j = i
    · subst hji; exact ⟨hjm, hy.qOp hi H⟩
    · have := hdone _ _ H j (ready_mono hj hji)
      omega
  | succ f ih =>
    intro listed a inv hfree hr hy H
    have hun := (mem_ready.1 hr).1
    refine ⟨fun h => (by rw [h] at hr; cases hr), fun j hj => ?_⟩
    have hjm : j < m := Nat.lt_of_not_le fun h => tail_waits hs hc hm inv _ i rfl him hun j h hj
    by_cases hji : j = i
    · subst hji; exact ⟨hjm, hy.qOp hi H⟩
    · obtain ⟨hjun, oj, hoj, hall⟩ := mem_ready.1 hj
      have hq := qOp_put hoj (hfree j oj hoj hji hjun (not_after hun hall)) (fun cs b => hsel i oi cs b hi) (fun cs b => hsel j oj cs b hoj) hy (H.2 j (ready_mono hj hji)).2
      refine ⟨hjm, qOp_mono (fun a' h3 => ih (listed.setIfInBounds j true) a' (inv.set hj hjm) (fun k ok hk hki hunk hno => ?_) (ready_mono hr (Ne.symm hji)) h3.1 ?_) hq⟩
      · refine hfree k ok hk hki ?_ hno
        by_cases hjk : j = k
        · subst hjk; exact hjun
        · rwa [getD_set_ne true hjk] at hunk
      · rw [Array.setIfInBounds_comm _ _ hji]; exact h3.2

theorem anyB_lex {m g : Nat} {Lq : Act → Prop} (hsel : Region.noSelect ops = true) (hs : Region.sinkB md ops m = true) (hc : Region.chainB md ops m = true) (hm : m < ops.size) :
    ∀ (l : List Oper) (k : Nat) (listed : Array Bool) (a : Act), (∀ j, j < l.length → l[j]? = ops[k + j]?) → k + l.length = m → HeadInv md ops m listed →
    Region.lexHead md ops g l.length k listed = true → wpQuiet P ops C Lq l a →
    anyB P md ops C m (fun listed' a' => Region.seqB md ops g m listed' = true ∧ Lq a') l.length listed a := by
  intro l
  induction l with
  | nil =>
    intro k listed a _ hk _ hB h
    obtain rfl : k = m := by simpa using hk
    exact ⟨by simpa [Region.lexHead] using hB, h⟩
  | cons o l ih =>
    intro k listed a hl hk inv hB h
    have h0 : ops[k]? = some o := by simpa using (hl 0 (by simp)).symm
    simp only [List.length_cons, Region.lexHead, Bool.and_eq_true] at hB
    simp only [List.length_cons] at hk
    have hr : k ∈ Region.ready md ops listed := by simpa using hB.1.1
    have hq : qOp P ops C k (wpQuiet P ops C Lq l) a := by unfold qOp; simp only [h0]; exact h
    obtain ⟨v, hy, hK⟩ := yieldsIn_of_qOp h0 hq
    refine anyB_first h0 (Region.noSelect_spec hsel) hs hc hm (by omega) (fun _ _ hL => seqB_ready hL.1) l.length listed a inv (Region.free_spec h0 hB.1.2) hr hy ?_
    exact ih (k + 1) _ _ (fun j hj => by have := hl (j + 1) (by simp; omega); simpa [Nat.add_assoc, Nat.add_comm 1 j] using this) (by omega) (inv.set hr (by omega)) hB.2 hK

theorem headInv_start (l : List Oper) (m : Nat) : HeadInv md l.toArray m (Array.replicate l.toArray.size false) :=
  ⟨by simp, fun j oj _ hl => (by rw [getD_replicate_false] at hl; cases hl), fun t _ ht => getD_in (by simpa using ht) (getD_replicate_false _ _)⟩

/-- (B): the first m operations only read or call quietly, in the class C; what stands behind them is a forced tail. -/
theorem wp_region_quiet_tail {id : Nat} {a : Act} {w : World} {l : List Oper} (m : Nat) (hm : P.follows .mixedOrders = true) (hB : Region.lexTailB .any l.toArray m = true) (hC : C { w with drawn := w.drawn + 1 })
    (h : wpQuiet P l.toArray C (fun a' => ∀ w', C w' → wpList P l.toArray Q (l.drop m) a' w') (l.take m) a) : (Code.region id l.toArray true).wp P Q a w := by
  simp only [Region.lexTailB, Bool.and_eq_true, decide_eq_true_eq] at hB
  obtain ⟨⟨⟨⟨hsel, hn⟩, hs⟩, hc⟩, hlex⟩ := hB
  have hn' : m < l.length := by simpa using hn
  have htl : (l.take m).length = m := by simp; omega
  have hdl : (l.drop m).length = l.toArray.size - m := by simp
  have H := anyB_lex (md := .any) (g := l.toArray.size - m) hsel hs hc hn (l.take m) 0 _ a (fun j hj => by
    have hj' : j < m := by rw [htl] at hj; exact hj
    simp [hj']) (by simpa using htl) (headInv_start l m) (by rw [htl]; exact hlex) h
  refine wp_region_any hm ?_
  have := wpAny_of_anyB (Q := Q) (g := l.toArray.size - m) (fun listed a' w' hw' hL => by
    have := wpAny_of_seq (md := .any) (Q' := Q) (l.drop m) m listed a' w' (fun j => by simp [List.getElem?_drop]) (by rw [hdl]; exact hL.1) (hL.2 w' hw')
    rwa [hdl] at this) _ _ _ _ hC H
  rw [htl, show m + (l.toArray.size - m) = l.toArray.size by omega] at this
  exact this

/-! ### (C) -/
/-- Whatever order is picked, as long as one of the first m operations is still to come; behind each of them the world is of the class. -/
def anyC (P : Program) (md : Region.Mode) (ops : Array Oper) (Q : Exit → Act → World → Prop) (C : World → Prop) (m : Nat) (L : Array Bool → Act → World → Prop) : Nat → Array Bool → Act → World → Prop
  | 0, listed, a, w => L listed a w
  | f + 1, listed, a, w => Region.ready md ops listed ≠ [] ∧ ∀ i ∈ Region.ready md ops listed, i < m ∧ wpOp P ops Q i (fun a' w' => C w' ∧ anyC P md ops Q C m L f (listed.setIfInBounds i true) a' w') a w

theorem wpAny_of_anyC {m g : Nat} {L : Array Bool → Act → World → Prop} (hL : ∀ listed a w, L listed a w → wpAny P md ops Q g listed a w) :
    ∀ (f : Nat) (listed : Array Bool) (a : Act) (w : World), anyC P md ops Q C m L f listed a w → wpAny P md ops Q (f + g) listed a w := by
  intro f
  induction f with
  | zero => intro listed a w h; rw [Nat.zero_add]; exact hL _ _ _ h
  | succ f ih =>
    intro listed a w h
    rw [show f + 1 + g = (f + g) + 1 by omega]
    exact ⟨fun h0 => absurd h0 h.1, fun i hi => wpOp_mono (fun a' w' h' => ih _ a' w' h'.2) (h.2 i hi).2⟩

theorem anyC_first {m i : Nat} {oi : Oper} {v : Value} {L : Array Bool → Act → World → Prop} (hi : ops[i]? = some oi) (hsel : ∀ (j : Nat) (o : Oper) cs b, ops[j]? = some o → o.op ≠ .select cs b)
    (hQ : ∀ c a w, Q (.panic c) (a.put oi.dst v) w → Q (.panic c) a w)
    (hs : Region.sinkB md ops m = true) (hc : Region.chainB md ops m = true) (hm : m < ops.size) (him : i < m)
    (hdone : ∀ listed a w, L listed a w → ∀ j ∈ Region.ready md ops listed, m ≤ j) :
    ∀ (f : Nat) (listed : Array Bool) (a : Act) (w : World), C w → HeadInv md ops m listed →
      (∀ j oj, ops[j]? = some oj → j ≠ i → listed.getD j true = false → (∀ e ∈ oj.after, Region.binds md e = true → e.on ≠ i) → oi.apart ops oj = true) →
      i ∈ Region.ready md ops listed → YieldsIf P ops C oi v a →
      anyC P md ops Q C m L f (listed.setIfInBounds i true) (a.put oi.dst v) w → anyC P md ops Q C m L (f + 1) listed a w := by
  intro f
  induction f with
  | zero =>
    intro listed a w hw inv _ hr hy H
    have hun := (mem_ready.1 hr).1
    refine ⟨fun h => (by rw [h] at hr; cases hr), fun j hj => ?_⟩
    have hjm : j < m := Nat.lt_of_not_le fun h => tail_waits hs hc hm inv _ i rfl him hun j h hj
    by_cases hji : j = i
    · subst hji; exact ⟨hjm, hy.wpOp hi hw ⟨hw, H⟩⟩
    · have := hdone _ _ _ H j (ready_mono hj hji)
      omega
  | succ f ih =>
    intro listed a w hw inv hfree hr hy H
    have hun := (mem_ready.1 hr).1
    refine ⟨fun h => (by rw [h] at hr; cases hr), fun j hj => ?_⟩
    have hjm : j < m := Nat.lt_of_not_le fun h => tail_waits hs hc hm inv _ i rfl him hun j h hj
    by_cases hji : j = i
    · subst hji; exact ⟨hjm, hy.wpOp hi hw ⟨hw, H⟩⟩
    · obtain ⟨hjun, oj, hoj, hall⟩ := mem_ready.1 hj
      have hq := wpOp_putIf hoj (hfree j oj hoj hji hjun (not_after hun hall)) (fun cs b => hsel i oi cs b hi) (fun cs b => hsel j oj cs b hoj) hQ hy (H.2 j (ready_mono hj hji)).2
      refine ⟨hjm, wpOp_mono (fun a' w' h3 => ⟨h3.2.1, ih (listed.setIfInBounds j true) a' w' h3.2.1 (inv.set hj hjm) (fun k ok hk hki hunk hno => ?_) (ready_mono hr (Ne.symm hji)) h3.1 ?_⟩) hq⟩
      · refine hfree k ok hk hki ?_ hno
        by_cases hjk : j = k
        · subst hjk; exact hjun
        · rwa [getD_set_ne true hjk] at hunk
      · rw [Array.setIfInBounds_comm _ _ hji]; exact h3.2.2

/-- an operation that is no call of a Go function: it never enters one -/
def noCall (o : Oper) : Bool := match o.op with
  | .move _ | .pick .. | .load .. | .binOp .. | .unOp .. | .convert .. | .slice .. | .fieldAddr .. | .field .. | .indexAddr .. | .index .. | .extract .. | .makeInterface .. => true
  | .nilCheck _ | .assign _ | .build .. | .typeAssert .. => true
  | .call c => match c.callee with | .builtin .len | .builtin .cap | .builtin .max | .builtin .min => true | _ => false
  | _ => false

/-- it yields a value, or does not end -/
def Vy (s : Sem Next) : Prop := ∀ (P : Program) (w w' : World) (n : Next), s.run P w = .ok n w' → ∃ v, n = .value v
theorem Vy.pure (v : Value) : Vy (Pure.pure (Next.value v)) := fun P w w' n h => by
  simp only [Sem.run_pure, Result.ok.injEq] at h; exact ⟨v, h.1.symm⟩
theorem Vy.bind {α : Type} {s : Sem α} {f : α → Sem Next} (h : ∀ x, Vy (f x)) : Vy (s >>= f) := fun P w w' n e => by
  rw [Sem.run_bind] at e
  cases hs : s.run P w with
  | ok x w1 => rw [hs] at e; exact h x P w1 w' n e
  | halt x w1 => rw [hs] at e; simp [Result.andThen] at e
theorem Vy.halt (h : Halt) : Vy (Sem.halt h) := fun P w w' n e => by simp [Sem.run] at e
theorem Vy.ite {c : Prop} [Decidable c] {s t : Sem Next} (hs : Vy s) (ht : Vy t) : Vy (if c then s else t) := by split <;> assumption

theorem noCall_vy {o : Oper} (hn : noCall o = true) (ρ : Operand → Value) : Vy (execOp ρ o) := by
  obtain ⟨dst, op, ty, pos, after, guard⟩ := o
  cases op
  case call c =>
    obtain ⟨callee, args, ats⟩ := c
    cases callee with
    | value f => simp [noCall] at hn
    | invoke r m => simp [noCall] at hn
    | builtin b =>
      cases b <;> first
        | (simp [noCall] at hn; done)
        | (rw [BigFrame.execOp_builtin]; first | rw [BigFrame.builtin_len] | rw [BigFrame.builtin_cap] | rw [BigFrame.builtin_max] | rw [BigFrame.builtin_min]
           exact Vy.bind fun _ => Vy.pure _)
  case nilCheck x =>
    simp only [execOp]
    split
    · exact Vy.bind fun _ => Vy.halt _
    · exact Vy.bind fun _ => Vy.halt _
    · exact Vy.bind fun _ => Vy.halt _
    · split
      · exact Vy.bind fun _ => Vy.halt _
      · refine Vy.bind fun p => Vy.bind fun q => ?_
        split
        · exact Vy.bind fun _ => Vy.pure _
        · exact Vy.pure _
      · exact Vy.pure _
    · exact Vy.pure _
  all_goals first
    | (simp [noCall] at hn; done)
    | (simp only [execOp]; exact Vy.pure _)
    | (simp only [execOp]; exact Vy.bind fun _ => Vy.pure _)

theorem yieldsIf_of_in {o : Oper} (hn : noCall o = true) {v : Value} {a : Act} (h : YieldsIn P ops C o v a) : YieldsIf P ops C o v a := by
  rcases h with ⟨hw, h⟩ | h
  · refine .inl ⟨hw, fun w hC => ?_⟩
    have h1 := h w hC
    have h2 := noCall_vy hn a.eval P w
    unfold Oper.quietAt at h1
    cases hr : (execOp a.eval o).run P w with
    | ok n w' =>
      obtain ⟨u, rfl⟩ := h2 w' n hr
      rw [hr] at h1
      obtain ⟨rfl, rfl⟩ := h1
      rfl
    | halt x w' => rw [hr] at h1; exact h1.elim
  · exact .inr h

/-- What is to be shown behind an operation that changes the world: that the world is of the class still; and what follows. -/
structure MidGo (C : World → Prop) (K : Act → World → Prop) (a : Act) (w : World) : Prop where
  cls : C w
  on : K a w

def midW (P : Program) (ops : Array Oper) (Q : Exit → Act → World → Prop) (C : World → Prop) (late : List Oper) : List Oper → Act → World → Prop
  | [], a, w => wpList P ops Q late a w
  | o :: rest, a, w =>
    if Region.wanted o (yielded ops a.tmps) then o.wp P a w (MidGo C (midW P ops Q C late rest)) Q ∨ (o.asks P a w ∧ LetsOut Q) else MidGo C (midW P ops Q C late rest) (a.put o.dst undef) w

theorem midW_nil {late : List Oper} {a : Act} {w : World} (h : wpList P ops Q late a w) : midW P ops Q C late [] a w := h
theorem midW_step {late rest : List Oper} {o : Oper} {a : Act} {w : World} (hg : o.guard = none) (h : ∀ K : Act → World → Prop, (∀ a w, MidGo C (midW P ops Q C late rest) a w → K a w) → o.wp P a w K Q) : midW P ops Q C late (o :: rest) a w := by
  unfold midW
  rw [if_pos (by simp [Region.wanted, hg])]
  exact .inl (h _ fun _ _ h => h)

theorem anyC_mid {m g : Nat} {late : List Oper} : ∀ (l : List Oper) (k : Nat) (listed : Array Bool) (a : Act) (w : World), (∀ j, j < l.length → l[j]? = ops[k + j]?) → k + l.length = m →
    Region.seqB md ops (l.length + g) k listed = true → midW P ops Q C late l a w →
    anyC P md ops Q C m (fun listed' a' w' => Region.seqB md ops g m listed' = true ∧ wpList P ops Q late a' w') l.length listed a w := by
  intro l
  induction l with
  | nil =>
    intro k listed a w _ hk hB h
    obtain rfl : k = m := by simpa using hk
    exact ⟨by simpa using hB, h⟩
  | cons o l ih =>
    intro k listed a w hl hk hB h
    have h0 : ops[k]? = some o := by simpa using (hl 0 (by simp)).symm
    simp only [List.length_cons] at hk
    rw [List.length_cons, show l.length + 1 + g = (l.length + g) + 1 by omega] at hB
    simp only [Region.seqB, Bool.and_eq_true, decide_eq_true_eq] at hB
    refine ⟨by rw [hB.1]; simp, fun i hi => ?_⟩
    rw [hB.1] at hi
    obtain rfl : i = k := by simpa using hi
    refine ⟨by omega, ?_⟩
    have hw : wpOp P ops Q i (MidGo C (midW P ops Q C late l)) a w := by unfold wpOp; simp only [h0]; exact h
    exact wpOp_mono (fun a' w' h' => ⟨h'.cls, ih (i + 1) _ a' w' (fun j hj => by have := hl (j + 1) (by simp; omega); simpa [Nat.add_assoc, Nat.add_comm 1 j] using this) (by omega) hB.2 h'.on⟩) hw

theorem anyC_lex {m r : Nat} {Lq : Act → Prop} {L : Array Bool → Act → World → Prop} {w : World} (hw : C w) (hQ : ∀ c a d v w, Q (.panic c) (a.put d v) w → Q (.panic c) a w)
    (hsel : Region.noSelect ops = true) (hs : Region.sinkB md ops m = true) (hc : Region.chainB md ops m = true) (hm : m < ops.size) (hdone : ∀ listed a w, L listed a w → ∀ j ∈ Region.ready md ops listed, m ≤ j) (g : Nat)
    (hL : ∀ listed a, Region.seqB md ops g (m - r) listed = true → Lq a → anyC P md ops Q C m L r listed a w) :
    ∀ (l : List Oper) (k : Nat) (listed : Array Bool) (a : Act), (∀ j, j < l.length → l[j]? = ops[k + j]?) → (∀ o ∈ l, noCall o = true) → k + l.length = m - r → HeadInv md ops m listed →
    Region.lexHead md ops g l.length k listed = true → wpQuiet P ops C Lq l a → anyC P md ops Q C m L (l.length + r) listed a w := by
  intro l
  induction l with
  | nil =>
    intro k listed a _ _ hk _ hB h
    have hk' : k = m - r := by simpa using hk
    rw [List.length_nil, Nat.zero_add]
    exact hL listed a (by rw [← hk']; simpa [Region.lexHead] using hB) h
  | cons o l ih =>
    intro k listed a hl hn hk inv hB h
    have h0 : ops[k]? = some o := by simpa using (hl 0 (by simp)).symm
    simp only [List.length_cons, Region.lexHead, Bool.and_eq_true] at hB
    simp only [List.length_cons] at hk
    have hr : k ∈ Region.ready md ops listed := by simpa using hB.1.1
    have hq : qOp P ops C k (wpQuiet P ops C Lq l) a := by unfold qOp; simp only [h0]; exact h
    obtain ⟨v, hy, hK⟩ := yieldsIn_of_qOp h0 hq
    rw [List.length_cons, show l.length + 1 + r = (l.length + r) + 1 by omega]
    refine anyC_first h0 (Region.noSelect_spec hsel) (fun c a w => hQ c a _ _ w) hs hc hm (by omega) hdone (l.length + r) listed a w hw inv (Region.free_spec h0 hB.1.2) hr (yieldsIf_of_in (hn o (by simp)) hy) ?_
    exact ih (k + 1) _ _ (fun j hj => by have := hl (j + 1) (by simp; omega); simpa [Nat.add_assoc, Nat.add_comm 1 j] using this) (fun o' ho' => hn o' (by simp [ho'])) (by omega) (inv.set hr (by omega)) hB.2 hK

/-- the Bool over a region: the first n operations only read, the next r change the world, the rest is a forced tail -/
def midB (ops : Array Oper) (n r : Nat) : Bool :=
  Region.noSelect ops && decide (n + r < ops.size) && Region.sinkB .any ops (n + r) && Region.chainB .any ops (n + r) && (ops.toList.take n).all noCall &&
    Region.lexHead .any ops (r + (ops.size - (n + r))) n 0 (Array.replicate ops.size false)

/-- (C) -/
theorem wpAny_mid {a : Act} {w : World} {l : List Oper} (n r : Nat) (hB : midB l.toArray n r = true) (hC : C { w with drawn := w.drawn + 1 })
    (h : wpQuiet P l.toArray C (fun a' => midW P l.toArray (NoPanic Q) C (l.drop (n + r)) ((l.drop n).take r) a' w.drew) (l.take n) a) : wpAny P .any l.toArray (NoPanic Q) l.toArray.size (Array.replicate l.toArray.size false) a { w with drawn := w.drawn + 1 } := by
  simp only [midB, Bool.and_eq_true, decide_eq_true_eq] at hB
  obtain ⟨⟨⟨⟨⟨hsel, hn⟩, hs⟩, hc⟩, hno⟩, hlex⟩ := hB
  have hn' : n + r < l.length := by simpa using hn
  have htl : (l.take n).length = n := by simp; omega
  have hml : ((l.drop n).take r).length = r := by simp; omega
  have hdl : (l.drop (n + r)).length = l.toArray.size - (n + r) := by simp
  have H := anyC_lex (P := P) (ops := l.toArray) (md := .any) (Q := NoPanic Q) (C := C) (m := n + r) (r := r)
    (L := fun listed' a' w' => Region.seqB .any l.toArray (l.toArray.size - (n + r)) (n + r) listed' = true ∧ wpList P l.toArray (NoPanic Q) (l.drop (n + r)) a' w')
    hC (fun _ _ _ _ _ h => h) hsel hs hc hn (fun _ _ _ hL => seqB_ready hL.1) (r + (l.toArray.size - (n + r)))
    (fun listed a' hB' h' => by
      have := anyC_mid (P := P) (ops := l.toArray) (md := .any) (Q := NoPanic Q) (C := C) (m := n + r) (g := l.toArray.size - (n + r)) (late := l.drop (n + r)) ((l.drop n).take r) n listed a' { w with drawn := w.drawn + 1 }
        (fun j hj => by rw [hml] at hj; simp [hj, List.getElem?_drop]) (by rw [hml]) (by rw [hml]; rw [show n + r - r = n by omega] at hB'; exact hB') h'
      rw [hml] at this
      exact this)
    (l.take n) 0 (Array.replicate l.toArray.size false) a (fun j hj => by rw [htl] at hj; simp [hj]) (fun o ho => List.all_eq_true.1 hno o (by simpa using ho)) (by rw [htl]; omega) (headInv_start l (n + r)) (by rw [htl]; exact hlex) h
  have := wpAny_of_anyC (Q := NoPanic Q) (g := l.toArray.size - (n + r)) (fun listed a' w' hL => by
    have := wpAny_of_seq (md := .any) (Q' := NoPanic Q) (l.drop (n + r)) (n + r) listed a' w' (fun j => by simp [List.getElem?_drop]) (by rw [hdl]; exact hL.1) hL.2
    rwa [hdl] at this) _ _ _ _ H
  rw [htl, show n + r + (l.toArray.size - (n + r)) = l.toArray.size by omega] at this
  exact this
theorem wp_region_mid {id : Nat} {a : Act} {w : World} {l : List Oper} (n r : Nat) (hm : P.follows .mixedOrders = true) (hB : midB l.toArray n r = true) (hC : C { w with drawn := w.drawn + 1 })
    (h : wpQuiet P l.toArray C (fun a' => midW P l.toArray (NoPanic Q) C (l.drop (n + r)) ((l.drop n).take r) a' w.drew) (l.take n) a) : (Code.region id l.toArray true).wp P Q a w :=
  wp_region_noPanic (wp_region_any hm (wpAny_mid n r hB hC h))
end
end Go.Proofs.Ytchhgbhbldfofaa
