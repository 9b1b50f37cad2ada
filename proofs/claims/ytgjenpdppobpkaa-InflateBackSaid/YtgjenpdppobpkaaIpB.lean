/-
  inflate: the document's run, plain: tables, blocks, all.
-/
import Derived.Test.YtgjenpdppobpkaaIpA
namespace Go.Proofs.Ytgjenpdppobpkaa.If
open Bt Hu

theorem sum_some : ∀ l : List Int, (∀ x ∈ l, 0 ≤ x) → (someN9 l : Int) ≤ l.sum ∧ oneN9 l ≤ someN9 l ∧ (someN9 l = 0 → l.sum = 0) ∧ (someN9 l = 1 → oneN9 l = 1 → l.sum = 1) ∧ (l.sum = 1 → oneN9 l = 1)
  | [], _ => by simp [someN9, oneN9]
  | x :: l, h => by
    obtain ⟨h1, h2, h3, h4, h5⟩ := sum_some l (fun y hy => h y (by simp [hy]))
    have hx := h x (by simp)
    have e1 : someN9 (x :: l) = someN9 l + if 0 < x then 1 else 0 := by unfold someN9; rw [List.countP_cons]; simp
    have e2 : oneN9 (x :: l) = oneN9 l + if x = 1 then 1 else 0 := by unfold oneN9; rw [List.countP_cons]; simp
    have e3 : (x :: l).sum = x + l.sum := by simp
    rw [e1, e2, e3]
    by_cases a : 0 < x
    · rw [if_pos a]
      by_cases b : x = 1
      · rw [if_pos b]
        refine ⟨by omega, by omega, by omega, fun u _ => ?_, fun u => ?_⟩
        · have := h3 (by omega); omega
        · have : someN9 l = 0 := by omega
          omega
      · rw [if_neg b]
        refine ⟨by omega, by omega, by omega, fun u v => ?_, fun u => by omega⟩
        omega
    · rw [if_neg a, if_neg (by omega)]
      obtain rfl : x = 0 := by omega
      simp only [Nat.add_zero, Int.zero_add]
      exact ⟨h1, h2, h3, h4, h5⟩
theorem few_dist (l : List Int) (h : ∀ x ∈ l, 0 ≤ x) : fewB l = (decide (someN9 l = 0) || (decide (someN9 l = 1) && decide (oneN9 l = 1))) := by
  obtain ⟨h1, h2, h3, h4, h5⟩ := sum_some l h
  unfold fewB
  rw [Bool.eq_iff_iff]
  simp only [decide_eq_true_eq, Bool.or_eq_true, Bool.and_eq_true]
  constructor
  · intro hs
    by_cases h0 : someN9 l = 0
    · exact .inl h0
    · have := h5 (by omega)
      exact .inr ⟨by omega, this⟩
  · rintro (h0 | ⟨ha, hb⟩)
    · rw [h3 h0]; decide
    · rw [h4 ha hb]; decide
def Small (l : List Int) : Prop := ∀ x ∈ l, 0 ≤ x ∧ x ≤ 15
theorem small_bad {l : List Int} (h : Small l) (hl : l.length ≤ 288) : badL l = false := by
  unfold badL
  rw [Bool.or_eq_false_iff, List.any_eq_false]
  refine ⟨decide_eq_false (by omega), fun x hx => ?_⟩
  have := h x hx
  simp
  omega
theorem small_full {l : List Int} (h : Small l) (hl : l.length ≤ 288) : fullB l = decide ((stateN l).1 = 0) := by
  have : (stateN l).2 = 0 := by unfold stateN; rw [small_bad h hl]; rfl
  unfold fullB
  rw [Bool.eq_iff_iff]
  simp only [decide_eq_true_eq]
  constructor
  · intro h; rw [h]
  · intro h; exact Prod.ext h this
theorem Small.take {l : List Int} (h : Small l) (n : Nat) : Small (l.take n) := fun x hx => h x (List.mem_of_mem_take hx)
theorem Small.drop {l : List Int} (h : Small l) (n : Nat) : Small (l.drop n) := fun x hx => h x (List.mem_of_mem_drop hx)
theorem Small.app {l m : List Int} (h : Small l) (h' : Small m) : Small (l ++ m) := fun x hx => (List.mem_append.1 hx).elim (h x) (h' x)
theorem Small.rep (k : Nat) {x : Int} (hx : 0 ≤ x ∧ x ≤ 15) : Small (List.replicate k x) := fun y hy => by rw [(List.mem_replicate.1 hy).2]; exact hx
theorem Small.get {l : List Int} (h : Small l) (k : Nat) : 0 ≤ l.getD k 0 ∧ l.getD k 0 ≤ 15 := by
  rw [List.getD_eq_getElem?_getD]
  cases hx : l[k]? with
  | none => simp
  | some x => exact h x (List.mem_of_getElem? hx)
theorem bad_dyn {l : List Int} {a : Nat} (h : Small l) (ha : a ≤ 286) (hl : l.length ≤ a + 30) : badT l a = !dynB l a := by
  have h1 : (l.take a).length ≤ 288 := by rw [List.length_take]; omega
  have h2 : (l.drop a).length ≤ 288 := by rw [List.length_drop]; omega
  have hg := h.get 256
  unfold badT dynB distB
  rw [small_full (h.take a) h1, small_full (h.drop a) h2, few_dist _ (fun x hx => (h.drop a x hx).1)]
  have e : decide (l.getD 256 0 = 0) = !decide (0 < l.getD 256 0) := by
    by_cases hz : l.getD 256 0 = 0
    · rw [hz]; rfl
    · rw [decide_eq_false hz, decide_eq_true (show 0 < l.getD 256 0 by omega)]; rfl
  rw [e]
  have e2 : decide ((stateN (l.take a)).1 ≠ 0) = !decide ((stateN (l.take a)).1 = 0) := by simp
  rw [e2]
  simp only [Bool.not_and, Bool.not_or, Bool.or_assoc]
section
variable {s : ByteArray} {B : Nat}
theorem own_small : ∀ (k i : Nat) (own : List Int) (p : Nat) (out : List Nat) {a : List Int} {q : Nat} {o : List Nat}, Small own → ownL s k i own p out = .ok a q o → Small a
  | 0, i, own, p, out, a, q, o, hs, h => by rw [ownL] at h; injection h with h1 _ _; rw [← h1]; exact hs
  | k + 1, i, own, p, out, a, q, o, hs, h => by
    rw [ownL] at h
    cases h1 : getR s 3 p out with
    | er e o1 => rw [h1, Rs.bind_er] at h; cases h
    | ok b p1 o1 =>
      obtain ⟨rfl, rfl, rfl, _⟩ := getR_ok h1
      rw [h1, Rs.bind_ok] at h
      refine own_small k _ _ _ _ (fun x hx => ?_) h
      rcases List.mem_or_eq_of_mem_set hx with hx | rfl
      · exact hs x hx
      · have := getv_lt s false p 3
        omega
theorem row_small {D : List Int} {n : Nat} (hD : D.length ≤ 19) : ∀ (g : Nat) (l : List Int) (p : Nat) (out : List Nat) {a : List Int} {q : Nat} {o : List Nat}, Small l → rowF s D n g l p out = .ok a q o → Small a
  | 0, l, p, out, a, q, o, _, h => by rw [rowF] at h; cases h
  | g + 1, l, p, out, a, q, o, hs, h => by
    have fwd : ∀ (k p1 : Nat) (o1 : List Nat) (f : Nat → List Int), (∀ k, Small (f k)) → ((getR s k p1 o1).bind fun k p out => rowF s D n g (f k) p out) = .ok a q o → Small a := fun k p1 o1 f hf h => by
      cases h2 : getR s k p1 o1 with
      | er e o => rw [h2, Rs.bind_er] at h; cases h
      | ok k p2 o2 =>
        rw [h2, Rs.bind_ok] at h
        exact row_small hD g _ _ _ (hf _) h
    rw [rowF] at h
    split at h
    · cases h1 : symR s D p out with
      | er e o => rw [h1, Rs.bind_er] at h; cases h
      | ok x p1 o1 =>
        obtain ⟨_, _, hx, rfl⟩ := symR_ok h1
        rw [h1, Rs.bind_ok] at h
        split at h
        · split at h
          · cases h
          · exact fwd 2 p1 o1 _ (fun k => hs.app (Small.rep _ (hs.get _))) h
        · split at h
          · exact fwd 3 p1 o1 _ (fun k => hs.app (Small.rep _ (by omega))) h
          · split at h
            · exact fwd 7 p1 o1 _ (fun k => hs.app (Small.rep _ (by omega))) h
            · refine row_small hD g _ _ _ (hs.app (fun y hy => ?_)) h
              rw [List.mem_singleton.1 hy]
              omega
    · split at h
      · injection h with h1 _ _
        rw [← h1]; exact hs
      · cases h
theorem rl_dyn (p : Nat) (out : List Nat) : Rl (dynR s B p out) () (ddyn s B (dtabs s ⟨p, out, 0⟩)) := by
  unfold dynR dtabs
  refine (rl_get 5 p out).bind (fun p1 o1 z1 e1 => ?_) (fun h => by rw [dtabA_dead h]; rfl)
  rw [e1]
  obtain ⟨_, _, _, _⟩ := getR_ok z1
  clear z1
  generalize (dget s 5 ⟨p, out, 0⟩).1 = a
  unfold dtabA
  refine (rl_get 5 p1 o1).bind (fun p2 o2 z1 e2 => ?_) (fun h => by rw [dtabB_dead h]; rfl)
  rw [e2]
  clear z1
  generalize (dget s 5 ⟨p1, o1, 0⟩).1 = b
  unfold dtabB
  refine (rl_get 4 p2 o2).bind (fun p3 o3 z1 e3 => ?_) (fun h => by rw [dtabC_dead h]; rfl)
  rw [e3]
  obtain ⟨_, _, _, hp3⟩ := getR_ok z1
  generalize (dget s 4 ⟨p2, o2, 0⟩).1 = c at z1 ⊢
  have hp3 : p3 ≤ 8 * s.size := by obtain ⟨_, h, _, h'⟩ := getR_ok z1; omega
  clear z1
  unfold dtabC
  by_cases hab : a + 257 ≤ 286 ∧ b + 1 ≤ 30
  · rw [if_pos hab, if_neg (by omega)]
    refine (rl_own (c + 4) 0 (zers 19) p3 o3).bind (fun p4 o4 z4 e4 => ?_) (fun h => by rw [dtabO_dead h]; rfl)
    rw [e4]
    obtain ⟨hp4, hol⟩ := own_ok' _ _ _ _ _ hp3 z4
    have hos := own_small _ _ _ _ _ (Small.rep 19 (by omega)) z4
    clear z4
    generalize (down s (c + 4) 0 (zers 19) ⟨p3, o3, 0⟩).1 = own at hol hos ⊢
    have hol : own.length = 19 := by rw [hol]; rfl
    unfold dtabO dynK
    rw [live9, small_full hos (by omega)]
    by_cases hf : (stateN own).1 = 0
    · rw [if_pos (decide_eq_true hf), if_neg (fun h => h hf)]
      refine (rl_rowF own _ _ [] p4 o4 hp4 (by omega)).bind (fun p5 o5 z5 e5 => ?_) (fun h => by unfold dlengths; rw [dtabL_dead h]; rfl)
      unfold dlengths
      simp only at e5 ⊢
      rw [e5]
      have hls := row_small (by omega) _ _ _ _ (fun x hx => by cases hx) z5
      have hll := rowF_ok _ _ _ _ hp4 (by omega) (fun x hx => by cases hx) z5
      generalize (dlenE (a + 257 + (b + 1)) (dlenF s own (a + 257 + (b + 1)) (8 * s.size - p4 + 2) [] ⟨p4, o4, 0⟩)).1 = l at hls hll ⊢
      unfold dtabL dynT
      rw [live9, bad_dyn hls (by omega) (by rw [hll.1]; omega)]
      cases hd : dynB l (a + 257) with
      | true =>
        rw [if_pos rfl, if_neg (show ¬ ((!true) = true) by decide)]
        exact rl_coded _ _ p5 o5 hll.2.2.1
      | false =>
        rw [if_neg (show ¬ (false = true) by decide), if_pos (show (!false) = true from rfl)]
        exact rl_fail _ _ _
    · rw [if_neg (by simpa using hf), if_pos hf]
      exact rl_fail _ _ _
  · rw [if_neg hab, if_pos ⟨rfl, by omega⟩]
    have : (dfail 4 ⟨p3, o3, 0⟩).e ≠ 0 := by unfold dfail; simp
    have hd : dtabO s a b (down s (c + 4) 0 (zers 19) (dfail 4 ⟨p3, o3, 0⟩)).1 (down s (c + 4) 0 (zers 19) (dfail 4 ⟨p3, o3, 0⟩)).2 = (none, dfail 4 ⟨p3, o3, 0⟩) := by
      rw [down_dead this, dtabO_dead this]
    rw [hd]
    exact rl_fail _ _ _
theorem rl_block (kind p : Nat) (out : List Nat) (hp : p ≤ 8 * s.size) : Rl (blockR s B kind p out) () (dblock s B kind ⟨p, out, 0⟩) := by
  unfold blockR dblock
  by_cases h0 : kind = 0
  · rw [if_pos h0, if_pos h0]; exact rl_stored p out
  · rw [if_neg h0, if_neg h0]
    by_cases h1 : kind = 1
    · rw [if_pos h1, if_pos h1]; exact rl_coded _ _ p out hp
    · rw [if_neg h1, if_neg h1]
      by_cases h2 : kind = 2
      · rw [if_pos h2, if_pos h2, dyn_eq]; exact rl_dyn p out
      · rw [if_neg h2, if_neg h2]; exact rl_fail _ _ _
theorem rl_all : ∀ (g p : Nat) (out : List Nat), p ≤ 8 * s.size → 8 * s.size + 1 ≤ p + g → Rl (allF s B g p out) () (drunF s B g ⟨p, out, 0⟩)
  | 0, p, out, hp, hg => by omega
  | g + 1, p, out, hp, hg => by
    rw [allF, drunF]
    refine (rl_get 1 p out).bind (fun p1 o1 z1 e1 => ?_) (fun h => drunA_dead h _ _)
    rw [e1]
    obtain ⟨_, hp1, _, hp1'⟩ := getR_ok z1
    clear z1
    generalize (dget s 1 ⟨p, out, 0⟩).1 = last
    unfold drunA
    refine (rl_get 2 p1 o1).bind (fun p2 o2 z2 e2 => ?_) (fun h => drunB_dead h _ _ _)
    rw [e2]
    obtain ⟨_, hp2, _, hp2'⟩ := getR_ok z2
    clear z2
    generalize (dget s 2 ⟨p1, o1, 0⟩).1 = kind
    unfold drunB
    rw [live9]
    have hb := rl_block (s := s) (B := B) kind p2 o2 (by omega)
    refine hb.bind (fun p3 o3 z3 e3 => ?_) (fun h => by rw [if_neg (fun x => h x.2)])
    rw [e3]
    have hp3 := blockR_ok z3
    by_cases hl : last = 0
    · rw [if_pos hl, if_pos ⟨hl, rfl⟩]
      exact rl_all g p3 o3 (by omega) (by omega)
    · rw [if_neg hl, if_neg (fun x => hl x.1)]
      exact ⟨rfl, rfl⟩
end
/-- what the document's run tells is what Run tells -/
theorem drun_runV (s : ByteArray) (B : Nat) : runV s B = if (drun s B).e ≠ 0 then .tuple #[.string (txt (drun s B).out), .int .i64 0, .int .i64 (drun s B).e] else .tuple #[.string (txt (drun s B).out), .int .i64 (((drun s B).p + 7) / 8 : Nat), .int .i64 0] := by
  have h := rl_all (s := s) (B := B) (8 * s.size + 1) 0 [] (by omega) (by omega)
  have h : Rl (runR s B) () (drun s B) := h
  unfold runV
  cases hr : runR s B with
  | ok a p o =>
    rw [hr] at h
    obtain ⟨_, h⟩ := h
    rw [h, if_neg (by simp)]
  | er e o =>
    rw [hr] at h
    obtain ⟨h0, h1, h2⟩ := h
    rw [h1, h2, if_pos h0]
end Go.Proofs.Ytgjenpdppobpkaa.If
