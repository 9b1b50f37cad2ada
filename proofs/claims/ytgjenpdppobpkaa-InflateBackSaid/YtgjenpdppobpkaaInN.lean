/-
  inflate: what is known of rows that are read; order walked.
-/
import Derived.Test.YtgjenpdppobpkaaInM
namespace Go.Proofs.Ytgjenpdppobpkaa.If
open Go.RowKit Bt Hu

theorem Rs.bind_assoc {α β γ : Type} (r : Rs α) (f : α → Nat → List Nat → Rs β) (g : β → Nat → List Nat → Rs γ) : (r.bind f).bind g = r.bind fun a p o => (f a p o).bind g := by
  cases r <;> rfl
section
variable (s : ByteArray) (B : Nat)
def dynT (a : Nat) (l : List Int) (p : Nat) (out : List Nat) : Rs Unit := if dynB l a = true then codedR s B (l.take a) (l.drop a) p out else .er 4 out
def dynK (a b : Nat) (own : List Int) (p : Nat) (out : List Nat) : Rs Unit :=
  if fullB own = true then (rowF s own (a + 257 + (b + 1)) (8 * s.size - p + 2) [] p out).bind (dynT s B (a + 257)) else .er 4 out
def dynR (p : Nat) (out : List Nat) : Rs Unit :=
  (getR s 5 p out).bind fun a p out => (getR s 5 p out).bind fun b p out => (getR s 4 p out).bind fun c p out =>
    if a + 257 ≤ 286 ∧ b + 1 ≤ 30 then (ownL s (c + 4) 0 (zers 19) p out).bind (dynK s B a b) else .er 4 out
theorem dyn_eq (p : Nat) (out : List Nat) : ((tabsR s p out).bind fun t p out => codedR s B t.1 t.2 p out) = dynR s B p out := by
  unfold tabsR dynR
  rw [Rs.bind_assoc]
  congr 1
  funext a p out
  rw [Rs.bind_assoc]
  congr 1
  funext b p out
  rw [Rs.bind_assoc]
  congr 1
  funext c p out
  split
  · rw [Rs.bind_assoc]
    congr 1
    funext own p out
    unfold dynK
    split
    · rw [Rs.bind_assoc]
      congr 1
      funext l p out
      unfold dynT
      split <;> rfl
    · rfl
  · rfl
end
theorem full_codes {l : List Int} (h : fullB l = true) : codesE l = 0 ∧ l.length ≤ 288 := by
  have h := of_decide_eq_true h
  unfold stateN at h
  cases hb : badL l with
  | true => rw [hb] at h; cases h
  | false =>
    rw [hb] at h
    simp only [Bool.false_eq_true, if_false, Prod.mk.injEq, and_true] at h
    refine ⟨?_, (bad_false hb).1⟩
    unfold codesE
    rw [hb, if_neg (by simp)]
    rw [if_neg]
    intro hk
    unfold cmpZ at h
    rw [if_neg (by omega), if_pos (by omega)] at h
    cases h
theorem kraS_few (l : List Int) (h : ∀ x ∈ l, 0 ≤ x) : kraS l ≤ 16384 * l.sum.toNat ∧ 0 ≤ l.sum ∧ (∀ x ∈ l, x ≤ l.sum) := by
  induction l with
  | nil => simp [kraS]
  | cons x l ih =>
    obtain ⟨h1, h2, h3⟩ := ih fun y hy => h y (by simp [hy])
    have hx := h x (by simp)
    have e : (x :: l).sum = x + l.sum := by simp
    rw [e, kraS]
    refine ⟨?_, by omega, fun y hy => ?_⟩
    · have e2 : (x + l.sum).toNat = x.toNat + l.sum.toNat := by omega
      rw [e2, Nat.mul_add]
      refine Nat.add_le_add ?_ h1
      split
      · have h9 : 2 ^ (15 - x.toNat) ≤ 2 ^ 14 := Nat.pow_le_pow_right (by omega) (by omega)
        have h8 : 1 ≤ x.toNat := by omega
        have h7 : 16384 * 1 ≤ 16384 * x.toNat := Nat.mul_le_mul_left _ h8
        omega
      · exact Nat.zero_le _
    · rcases List.mem_cons.1 hy with rfl | hy
      · omega
      · have := h3 y hy; omega
theorem few_codes {l : List Int} (hl : l.length ≤ 288) (hb : ∀ x ∈ l, 0 ≤ x) (h : fewB l = true) : codesE l = 0 := by
  have h := of_decide_eq_true h
  obtain ⟨h1, h2, h3⟩ := kraS_few l hb
  have hbad : badL l = false := by
    unfold badL
    rw [Bool.or_eq_false_iff, List.any_eq_false]
    refine ⟨decide_eq_false (by omega), fun x hx => ?_⟩
    have := hb x hx
    have := h3 x hx
    simp
    omega
  have hk : kra l = kraS l := kra_sum l fun x hx => by
    have := hb x hx
    have := h3 x hx
    omega
  unfold codesE
  rw [hbad, if_neg (by simp), if_neg (by rw [hk]; omega)]
section
variable {s : ByteArray} {B : Nat}
theorem rowF_ok {D : List Int} {n : Nat} : ∀ (g : Nat) (l : List Int) (p : Nat) (out : List Nat) {l' : List Int} {p' : Nat} {out' : List Nat}, p ≤ 8 * s.size → D.length ≤ 288 → (∀ x ∈ l, 0 ≤ x ∧ x ≤ 1000) → rowF s D n g l p out = .ok l' p' out' → l'.length = n ∧ (∀ x ∈ l', 0 ≤ x ∧ x ≤ 1000) ∧ p' ≤ 8 * s.size ∧ out' = out
  | 0, l, p, out, l', p', out', _, _, _, h => by rw [rowF] at h; cases h
  | g + 1, l, p, out, l', p', out', hp, hD, hb, h => by
    have hrep : ∀ (k : Nat) (x : Int), 0 ≤ x ∧ x ≤ 1000 → ∀ y ∈ l ++ List.replicate k x, 0 ≤ y ∧ y ≤ 1000 := fun k x hx y hy => by
      rcases List.mem_append.1 hy with hy | hy
      · exact hb y hy
      · rw [(List.mem_replicate.1 hy).2]; exact hx
    rw [rowF] at h
    split at h
    · cases h1 : symR s D p out with
      | er e o => rw [h1, Rs.bind_er] at h; cases h
      | ok x p1 o1 =>
        obtain ⟨_, hp1, hx, rfl⟩ := symR_ok h1
        rw [h1, Rs.bind_ok] at h
        split at h
        · split at h
          · cases h
          · cases h2 : getR s 2 p1 o1 with
            | er e o => rw [h2, Rs.bind_er] at h; cases h
            | ok k p2 o2 =>
              obtain ⟨_, rfl, rfl, hp2⟩ := getR_ok h2
              rw [h2, Rs.bind_ok] at h
              refine rowF_ok g _ _ _ hp2 hD (hrep _ _ ?_) h
              rw [List.getD_eq_getElem?_getD, List.getElem?_eq_getElem (by omega : l.length - 1 < l.length)]
              exact hb _ (List.getElem_mem _)
        · split at h
          · cases h2 : getR s 3 p1 o1 with
            | er e o => rw [h2, Rs.bind_er] at h; cases h
            | ok k p2 o2 =>
              obtain ⟨_, rfl, rfl, hp2⟩ := getR_ok h2
              rw [h2, Rs.bind_ok] at h
              exact rowF_ok g _ _ _ hp2 hD (hrep _ _ (by omega)) h
          · split at h
            · cases h2 : getR s 7 p1 o1 with
              | er e o => rw [h2, Rs.bind_er] at h; cases h
              | ok k p2 o2 =>
                obtain ⟨_, rfl, rfl, hp2⟩ := getR_ok h2
                rw [h2, Rs.bind_ok] at h
                exact rowF_ok g _ _ _ hp2 hD (hrep _ _ (by omega)) h
            · exact rowF_ok g _ _ _ hp1 hD (hrep 1 (x : Int) (by omega)) h
    · split at h
      · injection h with h1 h2 h3
        subst h1 h2 h3
        exact ⟨‹_›, hb, hp, rfl⟩
      · cases h
end
theorem ord_lt : ∀ k, k < 19 → ordN.getD k 0 < 19 := by decide
def ord19 : Array Value := #[iz 16, iz 17, iz 18, iz 0, iz 8, iz 7, iz 9, iz 6, iz 10, iz 5, iz 11, iz 4, iz 12, iz 3, iz 13, iz 2, iz 14, iz 1, iz 15]
theorem ord19_eq : ord19 = (ordN.map fun n : Nat => iz (n : Int)).toArray := rfl
theorem ord19_at (k : Nat) (h : k < 19) : ord19[k]? = some (iz ((ordN.getD k 0 : Nat) : Int)) := by
  rw [ord19_eq, List.getElem?_toArray, List.getElem?_map, List.getD_eq_getElem?_getD, List.getElem?_eq_getElem (show k < ordN.length from h)]
  rfl
theorem ord19_one : ord19.all (·.oneCell') = true := by rw [ord19_eq]; simp [Value.oneCell']
theorem ext_setRow (w : World) (g : Nat) (cs : Array Value) : Ext [g] w (w.setRow g cs) := ⟨rfl, rfl, rfl, by simp [World.setRow], fun k _ hk => setRow_other w g k cs (by simpa using hk)⟩
theorem wpList_at9 {P : Program} {ops : Array Oper} {Q : Exit → Act → World → Prop} {l : List Oper} {a a' : Act} {w : World} (h : a = a') (k : wpList P ops Q l a' w) : wpList P ops Q l a w := by rw [h]; exact k
set_option maxRecDepth 100000 in
set_option maxHeartbeats 4000000 in
theorem order_walk (w : World) : Calls Try.prog 77 #[] w fun e w' => e = .returned (.agg ord19) ∧ Ext [] w w' := by
  go_enter Try.func77, Try.ntmps77
  go_upto_region 1 with fail
  apply wp_region_lit
  refine wpList_build rfl 120 _ rfl (by kernel_rfl) ?_
  refine wpList_at9 (a' := { tmps := #[.pointer (some ⟨w.heap.size, 0, none⟩), .agg ord19], defers := [] }) (by kernel_rfl) ?_
  refine wpList_store_row rfl 120 _ _ rfl w.heap.size ord19 rfl rfl 120 _ (heap_alloc_at _) (by kernel_rfl) rfl ord19_one ?_
  apply wpList_nil
  obtain ⟨Z, hZ⟩ : ∃ Z : Array Value, Z = #[.int .i64 0, .int .i64 0, .int .i64 0, .int .i64 0, .int .i64 0, .int .i64 0, .int .i64 0, .int .i64 0, .int .i64 0, .int .i64 0, .int .i64 0, .int .i64 0, .int .i64 0, .int .i64 0, .int .i64 0, .int .i64 0, .int .i64 0, .int .i64 0, .int .i64 0] := ⟨_, rfl⟩
  rw [← hZ]
  clear hZ
  have hW := setRow_heap (w.alloc (.cells Z 120)) w.heap.size Z ord19 120 (0, 0) (heap_alloc_at _)
  have hX : Ext [] w ((w.alloc (.cells Z 120)).setRow w.heap.size ord19) :=
    ((Ext.refl [] w).alloc (.cells Z 120)).trans' (ext_setRow _ w.heap.size ord19) (fun i hi h => by rw [List.mem_singleton.1 h] at hi; exact absurd hi (Nat.lt_irrefl _))
  obtain ⟨W, hWW⟩ : ∃ W, (w.alloc (.cells Z 120)).setRow w.heap.size ord19 = W := ⟨_, rfl⟩
  rw [hWW] at hW hX ⊢
  clear hWW
  go_wp2_with fail
  refine bodyPost_ret (results_cell_row rfl _ _ w.heap.size 120 ord19 (0, 0) _ rfl hW Try.underlying120 rfl (by kernel_rfl)) rfl ?_
  exact ⟨rfl, hX⟩
end Go.Proofs.Ytgjenpdppobpkaa.If
