/-
  Sorting rows of elements of k cells: what is plain, for slices.SortFunc off the library's shelf.
-/
import Derived.Test.YtgpgamohcafklaaGreatDoorPkU
import Derived.Shelf.SlSortCmp.WholeK
import Derived.Shelf.SlSortCmp.NoneTotal
namespace Go.Proofs.YtgpgamohcafklaaGreatDoor.So
open Go.RowKit
open Go.Proofs.YtgpgamohcafklaaGreatDoor.Tr

section
variable {α : Type} {enc : α → List Value} {k : Nat}
theorem flat_len (hk : ∀ x, (enc x).length = k) : ∀ l : List α, (l.flatMap enc).length = l.length * k
  | [] => by simp
  | x :: l => by
    rw [List.flatMap_cons, List.length_append, hk, flat_len hk l, List.length_cons, Nat.succ_mul]
    omega
theorem flat_at (hk : ∀ x, (enc x).length = k) : ∀ (l : List α) (i c : Nat) (h : i < l.length), c < k → (l.flatMap enc)[i * k + c]? = (enc (l[i]'h))[c]?
  | [], i, c, h, _ => by simp at h
  | x :: l, i, c, h, hc => by
    rw [List.flatMap_cons]
    cases i with
    | zero => rw [Nat.zero_mul, Nat.zero_add, List.getElem?_append_left (by rw [hk]; exact hc)]; rfl
    | succ i =>
      rw [List.getElem?_append_right (by rw [hk, Nat.succ_mul]; omega), hk, show (i + 1) * k + c - k = i * k + c by rw [Nat.succ_mul]; omega]
      exact flat_at hk l i c (by simpa using h) hc
theorem flatK_at [Inhabited α] (hk : ∀ x, (enc x).length = k) (l : List α) (j : Nat) (hj : j < l.length * k) : (l.flatMap enc)[j]? = some ((Go.Sort.flatK enc k l.toArray)[j]!) := by
  rw [Go.Sort.get_flatK _ _ _ _ (by simpa using hj)]
  have h0 : 0 < k := by
    rcases Nat.eq_zero_or_pos k with h | h
    · subst h; simp at hj
    · exact h
  have hi : j / k < l.length := Nat.div_lt_of_lt_mul (by rw [Nat.mul_comm]; exact hj)
  have hc : j % k < k := Nat.mod_lt _ h0
  have he : l.toArray[j / k]! = l[j / k]'hi := by
    rw [getElem!_pos l.toArray (j / k) (by simpa using hi)]
    simp
  rw [he]
  have h1 := flat_at hk l (j / k) (j % k) hi hc
  rw [show j / k * k + j % k = j by rw [Nat.mul_comm]; exact Nat.div_add_mod j k] at h1
  rw [h1, getElem!_pos (enc (l[j / k]'hi)) (j % k) (by rw [hk]; exact hc)]
  exact List.getElem?_eq_getElem _
theorem row_holds [Inhabited α] (hk : ∀ x, (enc x).length = k) {w : World} {E : TypeId} {g cap : Nat} {l : List α} (h : w.ownsRow 0 E k (.slice (some ⟨g, 0, none⟩) l.length cap) l.length (l.flatMap enc)) : Go.Sort.HoldsK enc k w g 0 l.toArray := fun j hj => by
  rw [Go.Sort.size_flatK, List.size_toArray] at hj
  rw [Nat.zero_add]
  exact ⟨row_cell h (flatK_at hk l j hj), row_free h j⟩
theorem ext_sorted [Inhabited α] (enc : α → List Value) (k : Nat) (w : World) (g n : Nat) (d : Array α) (os : Array Obj) : Ext [g] w (Go.Proofs.sortWorldK enc k w g 0 n d os) := by
  refine ⟨rfl, rfl, rfl, ?_, fun q hq hS => ?_⟩
  · unfold Go.Proofs.sortWorldK Go.Sort.putRowK
    rw [Go.Sort.size_grow, Go.Sort.size_putRow]
    exact Nat.le_add_right _ _
  · have hne : ¬ g = q := fun e => hS (by simp [e])
    unfold Go.Proofs.sortWorldK Go.Sort.putRowK
    rw [Go.Sort.heap_grow_old _ _ (by rw [Go.Sort.size_putRow]; exact hq)]
    unfold Go.Sort.putRow Go.Sort.mapBlock
    rw [Array.getElem?_modify, if_neg hne]
    rfl
/-- what a sorted row tells -/
def Cells (w : World) (k : Nat) (enc : α → List Value) (v : Value) (E : List α) : Prop := ∃ base cap, v = .slice base E.length cap ∧ E.length ≤ cap ∧ ∀ i (h : i < E.length), ∃ b o, base = some ⟨b, o, none⟩ ∧ ∀ c x, (enc (E[i]'h))[c]? = some x → w.cell? ⟨b, o + i * k + c, none⟩ = some x
theorem cells_holds [Inhabited α] (hk : ∀ x, (enc x).length = k) {w : World} {g cap : Nat} {d : Array α} (h : Go.Sort.HoldsK enc k w g 0 d) (hc : d.size ≤ cap) : Cells w k enc (.slice (some ⟨g, 0, none⟩) d.toList.length cap) d.toList := by
  refine ⟨some ⟨g, 0, none⟩, cap, rfl, by simpa using hc, fun i hi => ⟨g, 0, rfl, fun c x hx => ?_⟩⟩
  have hi2 : i < d.size := by simpa using hi
  rw [Array.getElem_toList] at hx
  have hck : c < k := by rw [← hk (d[i]'hi2)]; exact (List.getElem?_eq_some_iff.1 hx).1
  have c0 := (h.cell (c := c) hi2 hck).1
  rw [getElem!_pos d i hi2, getElem!_pos _ c (by rw [hk]; exact hck)] at c0
  rw [(List.getElem?_eq_some_iff.1 hx).2] at c0
  exact c0
theorem cells_row {w : World} {E : TypeId} {v : Value} {l : List α} (h : w.ownsRow 0 E k v l.length (l.flatMap enc)) (hk : ∀ x, (enc x).length = k) (hne : l ≠ []) : Cells w k enc v l := by
  obtain ⟨g, cap, rfl⟩ := row_form h (by cases l with | nil => exact absurd rfl hne | cons a b => simp)
  refine ⟨_, cap, rfl, row_le h, fun i hi => ⟨g, 0, rfl, fun c x hx => ?_⟩⟩
  have hck : c < k := by rw [← hk (l[i]'hi)]; exact (List.getElem?_eq_some_iff.1 hx).1
  rw [Nat.zero_add]
  exact row_cell h ((flat_at hk l i c hi hck).trans hx)
theorem sorted_gen [Inhabited α] {lt : α → α → Bool} (hasy : ∀ x y, lt x y = true → lt y x = false) {l E : List α} (hp : E.Perm l) (hs : E.Pairwise fun x y => lt x y = true) {d : Array α} (hp2 : Go.Sort.PermIn 0 l.toArray.size l.toArray d) (hs2 : Go.Sort.SortedIn lt 0 l.toArray.size d) : d.toList = E := by
  obtain ⟨hz, -, hpm⟩ := hp2
  have e1 : d.extract 0 l.toArray.size = d := by rw [← hz]; exact Array.extract_size
  have e2 : l.toArray.extract 0 l.toArray.size = l.toArray := Array.extract_size
  rw [e1, e2] at hpm
  have hpm : d.toList.Perm l := by simpa using hpm
  have hPE : d.toList.Perm E := hpm.trans hp.symm
  refine List.Perm.eq_of_pairwise (le := fun x y => lt y x = false) (fun a b ha hb h1 h2 => ?_) ?_ (hs.imp (fun h => hasy _ _ h)) hPE
  · have ha := hPE.subset ha
    obtain ⟨i, hi, rfl⟩ := List.getElem_of_mem ha
    obtain ⟨j, hj, rfl⟩ := List.getElem_of_mem hb
    rw [List.pairwise_iff_getElem] at hs
    by_cases hij : i = j
    · subst hij; rfl
    · by_cases hlt : i < j
      · have := hs i j hi hj hlt; rw [h2] at this; cases this
      · have := hs j i hj hi (by omega); rw [h1] at this; cases this
  · rw [List.pairwise_iff_getElem]
    intro i j hi hj hij
    have := hs2 i j (by omega) hij (by rw [← hz]; simpa using hj)
    rw [getElem!_pos d i (by simpa using hi), getElem!_pos d j (by simpa using hj)] at this
    rw [Array.getElem_toList, Array.getElem_toList]
    exact this
/-! ### by two numbers -/
variable (p q : α → Int)
abbrev cf2 (x y : α) : Int := if Lib.compareInt (p x) (p y) ≠ 0 then Lib.compareInt (p x) (p y) else Lib.compareInt (q x) (q y)
theorem cmp_neg (a b : Int) : (Lib.compareInt a b < 0 ↔ a < b) ∧ (Lib.compareInt a b = 0 ↔ a = b) := by
  unfold Lib.compareInt
  by_cases h : a < b
  · rw [if_pos h]; constructor <;> constructor <;> intro _ <;> first | omega | skip
  · rw [if_neg h]
    by_cases h2 : a = b
    · simp [h2]
    · constructor <;> constructor <;> intro h3 <;> first | omega | (split at h3 <;> omega) | (split <;> omega)
theorem lt2 (x y : α) : ltOf (cf2 p q) x y = decide (p x < p y ∨ p x = p y ∧ q x < q y) := by
  unfold ltOf cf2
  have h1 := cmp_neg (p x) (p y)
  have h2 := cmp_neg (q x) (q y)
  by_cases h : Lib.compareInt (p x) (p y) = 0
  · rw [if_neg (by simp [h])]
    have := h1.2.1 h
    congr 1
    apply propext
    rw [h2.1]
    constructor <;> intro h <;> omega
  · rw [if_pos h]
    have hne : p x ≠ p y := fun e => h (h1.2.2 e)
    congr 1
    apply propext
    rw [h1.1]
    constructor <;> intro h <;> omega
theorem swo2 : Go.Sort.SWO (ltOf (cf2 p q)) where
  irrefl := fun x => by rw [lt2]; exact decide_eq_false (by omega)
  trans := fun x y z h1 h2 => by
    rw [lt2] at h1 h2 ⊢
    have h1 := of_decide_eq_true h1
    have h2 := of_decide_eq_true h2
    exact decide_eq_true (by omega)
  ntrans := fun x y z h1 h2 => by
    rw [lt2] at h1 h2 ⊢
    have h1 := of_decide_eq_false h1
    have h2 := of_decide_eq_false h2
    exact decide_eq_false (by omega)
theorem asy2 (x y : α) (h : ltOf (cf2 p q) x y = true) : ltOf (cf2 p q) y x = false := by
  rw [lt2] at h ⊢
  have := of_decide_eq_true h
  exact decide_eq_false (by omega)
/-! ### by one number -/
abbrev cf1 (x y : α) : Int := Lib.compareInt (p x) (p y)
theorem lt1 (x y : α) : ltOf (cf1 p) x y = decide (p x < p y) := by
  unfold ltOf cf1
  congr 1
  exact propext (cmp_neg (p x) (p y)).1
theorem swo1 : Go.Sort.SWO (ltOf (cf1 p)) where
  irrefl := fun x => by rw [lt1]; exact decide_eq_false (by omega)
  trans := fun x y z h1 h2 => by
    rw [lt1] at h1 h2 ⊢
    have h1 := of_decide_eq_true h1
    have h2 := of_decide_eq_true h2
    exact decide_eq_true (by omega)
  ntrans := fun x y z h1 h2 => by
    rw [lt1] at h1 h2 ⊢
    have h1 := of_decide_eq_false h1
    have h2 := of_decide_eq_false h2
    exact decide_eq_false (by omega)
theorem asy1 (x y : α) (h : ltOf (cf1 p) x y = true) : ltOf (cf1 p) y x = false := by
  rw [lt1] at h ⊢
  have := of_decide_eq_true h
  exact decide_eq_false (by omega)
end
/-! ### worlds with more blocks alone -/
def Gr (w : World) : Type := { w' : World // ∃ q os, w' = Go.Sort.grow (w.drewN q) os }
def Gr.w {w : World} (x : Gr w) : World := x.val
instance (w : World) : Nonempty (Gr w) := ⟨⟨Go.Sort.grow (w.drewN 0) #[], 0, #[], rfl⟩⟩
theorem Gr.ext {w : World} (x : Gr w) : Ext [] w x.w := by
  obtain ⟨w', q, os, rfl⟩ := x
  refine ⟨rfl, rfl, rfl, ?_, fun i hi _ => ?_⟩
  · show w.heap.size ≤ (Go.Sort.grow (w.drewN q) os).heap.size
    rw [Go.Sort.size_grow]
    exact Nat.le_add_right _ _
  · exact Go.Sort.heap_grow_old _ _ hi
theorem Calls.gr_of {P : Program} {f : FuncId} {args : Array Value} {w : World} {x : Gr w} {v : Value} (h : Calls P f args x.w fun e w' => e = .returned v ∧ w' = x.w) : Calls P f args x.w fun e w'' => e = .returned v ∧ ∃ y : Gr w, w'' = y.w :=
  h.mono fun _ _ ⟨he, hm⟩ => ⟨he, x, hm⟩
theorem grow_alloc (w : World) (q : Nat) (os : Array Obj) (o : Obj) : (Go.Sort.grow (w.drewN q) os).alloc o = Go.Sort.grow (w.drewN q) (os ++ #[o]) := by rw [Go.Sort.alloc_eq_grow, Go.Sort.grow_grow]
theorem grow_base (w : World) (q : Nat) (os os' : Array Obj) : Go.Sort.grow ((Go.Sort.grow w os).drewN q) os' = Go.Sort.grow (w.drewN q) (os ++ os') := by
  rw [← Go.Sort.grow_grow]
  rfl
theorem Gr.base {w w0 : World} {os : Array Obj} (h : w = Go.Sort.grow w0 os) (x : Gr w) : ∃ q os', x.w = Go.Sort.grow (w0.drewN q) os' := by
  obtain ⟨w', q, os', rfl⟩ := x
  exact ⟨q, os ++ os', by subst h; exact grow_base w0 q os os'⟩
theorem Gr.start (w : World) : ∃ y : Gr w, ({ w with drawn := w.drawn + 1 } : World) = y.w := ⟨⟨_, 1, #[], rfl⟩, by
  show _ = Go.Sort.grow (w.drewN 1) #[]
  simp [Go.Sort.grow]
  rfl⟩
end Go.Proofs.YtgpgamohcafklaaGreatDoor.So
