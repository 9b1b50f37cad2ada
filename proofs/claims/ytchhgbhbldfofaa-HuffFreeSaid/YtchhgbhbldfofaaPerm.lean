/-
  A region that draws its order: chosen operations that only read are taken first, in a chosen order; what is left of its head is gone through in every order; then a forced tail. No program is in sight here.
-/
import Derived.Test.YtchhgbhbldfofaaRnd
import Derived.Test.YtchhgbhbldfofaaSrc
namespace Go.Proofs.Ytchhgbhbldfofaa
open Go.RowKit
section
variable {P : Program} {ops : Array Oper} {md : Region.Mode} {C : World → Prop} {Q : Exit → Act → World → Prop}

def headP (md : Region.Mode) (ops : Array Oper) : List Nat → Array Bool → Bool
  | [], _ => true
  | k :: r, listed => (Region.ready md ops listed).contains k && Region.free md ops listed k && headP md ops r (listed.setIfInBounds k true)
def listAll : List Nat → Array Bool → Array Bool
  | [], listed => listed
  | k :: r, listed => listAll r (listed.setIfInBounds k true)
def pick (ops : Array Oper) : List Nat → List Oper
  | [] => []
  | k :: r => match ops[k]? with
    | some o => o :: pick ops r
    | none => pick ops r

theorem anyC_perm {m r : Nat} {Lq : Act → Prop} {L : Array Bool → Act → World → Prop} {w : World} (hw : C w) (hQ : ∀ c a d v w, Q (.panic c) (a.put d v) w → Q (.panic c) a w)
    (hsel : Region.noSelect ops = true) (hs : Region.sinkB md ops m = true) (hc : Region.chainB md ops m = true) (hm : m < ops.size) (hdone : ∀ listed a w, L listed a w → ∀ j ∈ Region.ready md ops listed, m ≤ j) (fin : Array Bool)
    (hL : ∀ a, Lq a → anyC P md ops Q C m L r fin a w) :
    ∀ (π : List Nat) (listed : Array Bool) (a : Act), (∀ k ∈ π, k < m) → (∀ o ∈ pick ops π, noCall o = true) → HeadInv md ops m listed → headP md ops π listed = true → listAll π listed = fin →
      wpQuiet P ops C Lq (pick ops π) a → anyC P md ops Q C m L (π.length + r) listed a w := by
  intro π
  induction π with
  | nil =>
    intro listed a _ _ _ _ hf h
    rw [List.length_nil, Nat.zero_add]
    have : listed = fin := hf
    exact this ▸ hL a h
  | cons k π ih =>
    intro listed a hlt hn inv hB hf h
    have hkm : k < m := hlt k (by simp)
    obtain ⟨o, h0⟩ : ∃ o, ops[k]? = some o := ⟨_, Array.getElem?_eq_getElem (by omega)⟩
    simp only [headP, Bool.and_eq_true] at hB
    have hr : k ∈ Region.ready md ops listed := by simpa using hB.1.1
    have hp : pick ops (k :: π) = o :: pick ops π := by simp [pick, h0]
    rw [hp] at h hn
    have hq : qOp P ops C k (wpQuiet P ops C Lq (pick ops π)) a := by unfold qOp; simp only [h0]; exact h
    obtain ⟨v, hy, hK⟩ := yieldsIn_of_qOp h0 hq
    rw [List.length_cons, show π.length + 1 + r = (π.length + r) + 1 by omega]
    refine anyC_first h0 (Region.noSelect_spec hsel) (fun c a w => hQ c a _ _ w) hs hc hm hkm hdone (π.length + r) listed a w hw inv (Region.free_spec h0 hB.1.2) hr (yieldsIf_of_in (hn o (by simp)) hy) ?_
    exact ih _ _ (fun j hj => hlt j (by simp [hj])) (fun o' ho' => hn o' (by simp [ho'])) (inv.set hr hkm) hB.2 hf hK

/-- the Bool over a region: the operations π only read and may be taken first; behind number m stands a forced tail -/
def permB (ops : Array Oper) (π : List Nat) (m : Nat) : Bool :=
  Region.noSelect ops && decide (m < ops.size) && Region.sinkB .any ops m && Region.chainB .any ops m && decide (π.length ≤ m) && π.all (fun k => decide (k < m)) && (pick ops π).all noCall && headP .any ops π (Array.replicate ops.size false)

/-- what is left behind the head: a forced tail -/
def TailW (P : Program) (ops : Array Oper) (Q : Exit → Act → World → Prop) (m : Nat) (late : List Oper) (listed : Array Bool) (a : Act) (w : World) : Prop :=
  Region.seqB .any ops (ops.size - m) m listed = true ∧ wpList P ops Q late a w

theorem wpAny_perm {a : Act} {w : World} {l : List Oper} (π : List Nat) (m : Nat) (hB : permB l.toArray π m = true) (hC : C { w with drawn := w.drawn + 1 })
    (h : wpQuiet P l.toArray C (fun a' => anyC P .any l.toArray (NoPanic Q) C m (TailW P l.toArray (NoPanic Q) m (l.drop m)) (m - π.length) (listAll π (Array.replicate l.toArray.size false)) a' w.drew) (pick l.toArray π) a) :
    wpAny P .any l.toArray (NoPanic Q) l.toArray.size (Array.replicate l.toArray.size false) a { w with drawn := w.drawn + 1 } := by
  simp only [permB, Bool.and_eq_true, decide_eq_true_eq] at hB
  obtain ⟨⟨⟨⟨⟨⟨⟨hsel, hn⟩, hs⟩, hc⟩, hle⟩, hlt⟩, hno⟩, hhead⟩ := hB
  have hdl : (l.drop m).length = l.toArray.size - m := by simp
  have H := anyC_perm (P := P) (ops := l.toArray) (md := .any) (Q := NoPanic Q) (C := C) (m := m) (r := m - π.length)
    (L := TailW P l.toArray (NoPanic Q) m (l.drop m)) (w := { w with drawn := w.drawn + 1 })
    hC (fun _ _ _ _ _ h => h) hsel hs hc hn (fun _ _ _ hL => seqB_ready hL.1) _ (fun a' h' => h') π (Array.replicate l.toArray.size false) a
    (fun k hk => by simpa using List.all_eq_true.1 hlt k hk) (fun o ho => List.all_eq_true.1 hno o ho) (headInv_start l m) hhead rfl h
  have := wpAny_of_anyC (Q := NoPanic Q) (g := l.toArray.size - m) (fun listed a' w' hL => by
    have := wpAny_of_seq (md := .any) (Q' := NoPanic Q) (l.drop m) m listed a' w' (fun j => by simp [List.getElem?_drop]) (by rw [hdl]; exact hL.1) hL.2
    rwa [hdl] at this) _ _ _ _ H
  rw [show π.length + (m - π.length) + (l.toArray.size - m) = l.toArray.size by omega] at this
  exact this
theorem wp_region_perm {id : Nat} {a : Act} {w : World} {l : List Oper} (π : List Nat) (m : Nat) (hm : P.follows .mixedOrders = true) (hB : permB l.toArray π m = true) (hC : C { w with drawn := w.drawn + 1 })
    (h : wpQuiet P l.toArray C (fun a' => anyC P .any l.toArray (NoPanic Q) C m (TailW P l.toArray (NoPanic Q) m (l.drop m)) (m - π.length) (listAll π (Array.replicate l.toArray.size false)) a' w.drew) (pick l.toArray π) a) : (Code.region id l.toArray true).wp P Q a w :=
  wp_region_noPanic (wp_region_any hm (wpAny_perm π m hB hC h))
/-- the same in a round -/
theorem rnd_perm {lr k id : Nat} {a : Act} {w : World} {l : List Oper} (π : List Nat) (m : Nat) (hm : P.follows .mixedOrders = true) (hB : permB l.toArray π m = true) (hd : l.all noDefer = true) (hL : ¬ LetsOut Q) (hC : C { w with drawn := w.drawn + 1 })
    (h : wpQuiet P l.toArray C (fun a' => anyC P .any l.toArray (NoPanic Q) C m (TailW P l.toArray (NoPanic Q) m (l.drop m)) (m - π.length) (listAll π (Array.replicate l.toArray.size false)) a' w.drew) (pick l.toArray π) a) : (Code.region id l.toArray true).wpIn (rnd lr) k P Q a w :=
  wpIn_mono (rnd_any (Q := NoPanic Q) hm hd (fun ⟨a, w, h⟩ => hL ⟨a, w, h⟩) (wpAny_perm π m hB hC h)) NoPanic.imp

/-! ### What is left of the head, in every order -/
theorem wpOp_plain {i : Nat} {o : Oper} {K : Act → World → Prop} {a : Act} {w : World} (ho : ops[i]? = some o) (hg : o.guard = none) (h : ∀ K' : Act → World → Prop, (∀ a w, K a w → K' a w) → o.wp P a w K' Q) : wpOp P ops Q i K a w := by
  unfold wpOp
  simp only [ho]
  rw [if_pos (by simp [Region.wanted, hg])]
  exact .inl (h _ fun _ _ h => h)
theorem anyC_end {m : Nat} {late : List Oper} {listed : Array Bool} {a : Act} {w : World} (hs : Region.seqB .any ops (ops.size - m) m listed = true) (h : wpList P ops Q late a w) :
    anyC P .any ops Q C m (TailW P ops Q m late) 0 listed a w := ⟨hs, h⟩
theorem anyC_one {m f i : Nat} {o : Oper} {L : Array Bool → Act → World → Prop} {listed : Array Bool} {a : Act} {w : World} (hr : Region.ready md ops listed = [i]) (hi : i < m) (ho : ops[i]? = some o) (hg : o.guard = none)
    (h : ∀ K : Act → World → Prop, (∀ a' w', C w' → anyC P md ops Q C m L f (listed.setIfInBounds i true) a' w' → K a' w') → o.wp P a w K Q) : anyC P md ops Q C m L (f + 1) listed a w := by
  refine ⟨by rw [hr]; simp, fun k hk => ?_⟩
  rw [hr] at hk
  obtain rfl : k = i := by simpa using hk
  exact ⟨hi, wpOp_plain ho hg fun K' hK => h K' fun a' w' h1 h2 => hK a' w' ⟨h1, h2⟩⟩
theorem anyC_two {m f i j : Nat} {o o' : Oper} {L : Array Bool → Act → World → Prop} {listed : Array Bool} {a : Act} {w : World} (hr : Region.ready md ops listed = [i, j]) (hi : i < m) (hj : j < m) (ho : ops[i]? = some o) (hg : o.guard = none) (ho' : ops[j]? = some o') (hg' : o'.guard = none)
    (h : ∀ K : Act → World → Prop, (∀ a' w', C w' → anyC P md ops Q C m L f (listed.setIfInBounds i true) a' w' → K a' w') → o.wp P a w K Q)
    (h' : ∀ K : Act → World → Prop, (∀ a' w', C w' → anyC P md ops Q C m L f (listed.setIfInBounds j true) a' w' → K a' w') → o'.wp P a w K Q) : anyC P md ops Q C m L (f + 1) listed a w := by
  refine ⟨by rw [hr]; simp, fun k hk => ?_⟩
  rw [hr] at hk
  rcases List.mem_cons.1 hk with rfl | hk
  · exact ⟨hi, wpOp_plain ho hg fun K' hK => h K' fun a' w' h1 h2 => hK a' w' ⟨h1, h2⟩⟩
  · obtain rfl : k = j := by simpa using hk
    exact ⟨hj, wpOp_plain ho' hg' fun K' hK => h' K' fun a' w' h1 h2 => hK a' w' ⟨h1, h2⟩⟩
/-- append, its run being known -/
theorem wp_append_run {o : Oper} {a : Act} {w w' : World} {K : Act → World → Prop} (s x : Operand) (t tx : TypeId) (ho : o.op = .call { callee := .builtin .append, args := #[s, x], argTypes := #[t, tx] }) {v xv r : Value}
    (hs : a.eval s = v) (hx : a.eval x = xv) (hr : (Builtin.append_ #[t, tx] o.type #[v, xv]).run P w = .ok r w') (h : K (a.put o.dst r) w') : o.wp P a w K Q := by
  unfold Oper.wp execOp
  simp only [ho, resolve, invoke, builtin, Sem.run_bind, Sem.run_pure, Result.andThen_ok, List.map_toArray, List.map_cons, List.map_nil, hs, hx, hr]
  exact h
end
end Go.Proofs.Ytchhgbhbldfofaa
