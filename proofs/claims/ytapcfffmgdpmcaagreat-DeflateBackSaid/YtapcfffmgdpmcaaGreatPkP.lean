/-
  InO, InP, InQ, InR, InT, in one text.
-/
import Derived.Test.YtapcfffmgdpmcaaGreatPkO
import Derived.Defers
import Derived.Recover
import Derived.Laws.Pointers
/-! InO: inflate: dynamic walked. -/
namespace Go.Proofs.YtapcfffmgdpmcaaGreat.If
open Go.RowKit Bt Hu

theorem alloc_row (w : World) (Z cs : Array Value) (t : TypeId) : Ext [] w ((w.alloc (.cells Z t)).setRow w.heap.size cs) ∧ ((w.alloc (.cells Z t)).setRow w.heap.size cs).heap[w.heap.size]? = some (.cells cs t (0, 0)) :=
  ⟨((Ext.refl [] w).alloc (.cells Z t)).trans' (ext_setRow _ w.heap.size cs) (fun i hi h => by rw [List.mem_singleton.1 h] at hi; exact absurd hi (Nat.lt_irrefl _)), setRow_heap _ w.heap.size Z cs t (0, 0) (heap_alloc_at _)⟩
def oOwn (q : Nat) (own : List Int) : Ob := oSl 3 1 (.slice (some ⟨q, 0, none⟩) 19 19) 19 (own.map iz)
end Go.Proofs.YtapcfffmgdpmcaaGreat.If
namespace Go.Proofs.YtapcfffmgdpmcaaGreat
theorem Sep.sd {w0 w : World} {a b : Ob} {l : List Ob} (h : Sep w0 w (a :: b :: l)) : Sep w0 w (a :: l) := by
  refine ⟨h.ext, fun o ho => h.each o ?_, fun o ho => h.base o ?_, fun i j o o' hi hj hij => ?_⟩
  · rcases List.mem_cons.1 ho with rfl | ho
    · exact List.mem_cons_self ..
    · exact List.mem_cons_of_mem _ (List.mem_cons_of_mem _ ho)
  · rcases List.mem_cons.1 ho with rfl | ho
    · exact List.mem_cons_self ..
    · exact List.mem_cons_of_mem _ (List.mem_cons_of_mem _ ho)
  · cases i with
    | zero =>
      cases j with
      | zero => exact absurd rfl hij
      | succ j => exact h.apart 0 (j + 2) o o' (by simpa using hi) (by simpa using hj) (by omega)
    | succ i =>
      cases j with
      | zero => exact h.apart (i + 2) 0 o o' (by simpa using hi) (by simpa using hj) (by omega)
      | succ j => exact h.apart (i + 2) (j + 2) o o' (by simpa using hi) (by simpa using hj) (by omega)
end Go.Proofs.YtapcfffmgdpmcaaGreat
namespace Go.Proofs.YtapcfffmgdpmcaaGreat.If
open Go.RowKit Bt Hu
theorem ints_cut {w : World} {g cap A : Nat} {l : List Int} (h : w.ownsRow 0 3 1 (.slice (some ⟨g, 0, none⟩) l.length cap) l.length (l.map iz)) (hA : A ≤ l.length) :
    IntsArg w (.slice (some ⟨g, 0, none⟩) A cap) (l.take A) ∧ IntsArg w (.slice (some ⟨g, A, none⟩) (l.length - A) (cap - A)) (l.drop A) := by
  obtain ⟨cs, _, h1, h2, _, _⟩ := ownsRow_open h
  have e1 : (l.take A).length = A := by rw [List.length_take]; omega
  have e2 : (l.drop A).length = l.length - A := List.length_drop
  refine ⟨⟨⟨some ⟨g, 0, none⟩, cap, by rw [e1], fun _ => ⟨g, 0, rfl, fun i x hi => ?_⟩⟩, some ⟨g, 0, none⟩, cap, by rw [e1], by omega, h2, fun h => by cases h⟩,
    ⟨⟨some ⟨g, A, none⟩, cap - A, by rw [e2], fun _ => ⟨g, A, rfl, fun i x hi => ?_⟩⟩, some ⟨g, A, none⟩, cap - A, by rw [e2], by omega, by omega, fun h => by cases h⟩⟩
  · rw [Nat.zero_add]
    have hi' : i < A := by have := (List.getElem?_eq_some_iff.1 hi).1; omega
    rw [List.getElem?_take_of_lt hi'] at hi
    exact ownsRow_at h (by rw [List.getElem?_map, hi]; rfl)
  · rw [List.getElem?_drop] at hi
    exact ownsRow_at h (by rw [List.getElem?_map, hi]; rfl)
section
variable {w0 w : World} {L : List Ob} {j ub rb : Nat} {F : List Nat} {s : ByteArray} {B p : Nat} {out : List Nat}
end
end Go.Proofs.YtapcfffmgdpmcaaGreat.If

/-! InP: inflate: blocks, all walked. -/
namespace Go.Proofs.YtapcfffmgdpmcaaGreat.If
open Go.RowKit Bt Hu

section
variable {s : ByteArray} {B : Nat}
theorem storeL_ok : ∀ (n p : Nat) (out : List Nat) {a : Unit} {q : Nat} {o : List Nat}, p ≤ 8 * s.size → storeL s B n p out = .ok a q o → p ≤ q ∧ q ≤ 8 * s.size
  | 0, p, out, a, q, o, hp, h => by rw [storeL] at h; injection h with _ h2 _; omega
  | n + 1, p, out, a, q, o, hp, h => by
    rw [storeL] at h
    cases h1 : getR s 8 p out with
    | er e o1 => rw [h1, Rs.bind_er] at h; cases h
    | ok b p1 o1 =>
      obtain ⟨_, rfl, rfl, hp1⟩ := getR_ok h1
      rw [h1, Rs.bind_ok] at h
      cases h2 : putR B b (p + 8) o1 with
      | er e o2 => rw [h2, Rs.bind_er] at h; cases h
      | ok u p2 o2 =>
        obtain ⟨rfl, _, _⟩ := putR_ok h2
        rw [h2, Rs.bind_ok] at h
        have := storeL_ok n _ _ hp1 h
        omega
theorem storedR_ok {p : Nat} {out : List Nat} {a : Unit} {q : Nat} {o : List Nat} (h : storedR s B p out = .ok a q o) : p ≤ q ∧ q ≤ 8 * s.size := by
  unfold storedR at h
  cases h1 : getR s 16 (p + gap p) out with
  | er e o1 => rw [h1, Rs.bind_er] at h; cases h
  | ok n p1 o1 =>
    obtain ⟨_, rfl, rfl, hp1⟩ := getR_ok h1
    rw [h1, Rs.bind_ok] at h
    cases h2 : getR s 16 (p + gap p + 16) o1 with
    | er e o2 => rw [h2, Rs.bind_er] at h; cases h
    | ok m p2 o2 =>
      obtain ⟨_, rfl, rfl, hp2⟩ := getR_ok h2
      rw [h2, Rs.bind_ok] at h
      split at h
      · have := storeL_ok _ _ _ hp2 h
        omega
      · cases h
theorem codedF_ok {D1 D2 : List Int} : ∀ (g p : Nat) (out : List Nat) {a : Unit} {q : Nat} {o : List Nat}, codedF s B D1 D2 g p out = .ok a q o → p ≤ q ∧ q ≤ 8 * s.size
  | 0, p, out, a, q, o, h => by rw [codedF] at h; cases h
  | g + 1, p, out, a, q, o, h => by
    rw [codedF] at h
    cases h1 : symR s D1 p out with
    | er e o1 => rw [h1, Rs.bind_er] at h; cases h
    | ok x p1 o1 =>
      obtain ⟨hp0, hp1, _, rfl⟩ := symR_ok h1
      rw [h1, Rs.bind_ok] at h
      split at h
      · cases h2 : putR B x p1 o1 with
        | er e o2 => rw [h2, Rs.bind_er] at h; cases h
        | ok u p2 o2 =>
          obtain ⟨rfl, _, _⟩ := putR_ok h2
          rw [h2, Rs.bind_ok] at h
          have := codedF_ok g _ _ h
          omega
      · split at h
        · injection h with _ h2 _
          omega
        · split at h
          · cases h2 : againR s B x D2 p1 o1 with
            | er e o2 => rw [h2, Rs.bind_er] at h; cases h
            | ok u p2 o2 =>
              have := againR_ok h2
              rw [h2, Rs.bind_ok] at h
              have := codedF_ok g _ _ h
              omega
          · cases h
theorem ownL_ok : ∀ (k i : Nat) (own : List Int) (p : Nat) (out : List Nat) {a : List Int} {q : Nat} {o : List Nat}, ownL s k i own p out = .ok a q o → p ≤ q
  | 0, i, own, p, out, a, q, o, h => by rw [ownL] at h; injection h with _ h2 _; omega
  | k + 1, i, own, p, out, a, q, o, h => by
    rw [ownL] at h
    cases h1 : getR s 3 p out with
    | er e o1 => rw [h1, Rs.bind_er] at h; cases h
    | ok b p1 o1 =>
      obtain ⟨_, rfl, rfl, hp1⟩ := getR_ok h1
      rw [h1, Rs.bind_ok] at h
      have := ownL_ok k _ _ _ _ h
      omega
theorem rowF_le {D : List Int} {n : Nat} : ∀ (g : Nat) (l : List Int) (p : Nat) (out : List Nat) {a : List Int} {q : Nat} {o : List Nat}, rowF s D n g l p out = .ok a q o → p ≤ q
  | 0, l, p, out, a, q, o, h => by rw [rowF] at h; cases h
  | g + 1, l, p, out, a, q, o, h => by
    have fwd : ∀ (k p1 : Nat) (o1 : List Nat) (f : Nat → List Int), p ≤ p1 → ((getR s k p1 o1).bind fun k p out => rowF s D n g (f k) p out) = .ok a q o → p ≤ q := fun k p1 o1 f hp h => by
      cases h2 : getR s k p1 o1 with
      | er e o => rw [h2, Rs.bind_er] at h; cases h
      | ok k p2 o2 =>
        obtain ⟨_, rfl, rfl, _⟩ := getR_ok h2
        rw [h2, Rs.bind_ok] at h
        have := rowF_le g _ _ _ h
        omega
    rw [rowF] at h
    split at h
    · cases h1 : symR s D p out with
      | er e o => rw [h1, Rs.bind_er] at h; cases h
      | ok x p1 o1 =>
        obtain ⟨hp0, _, _, rfl⟩ := symR_ok h1
        rw [h1, Rs.bind_ok] at h
        split at h
        · split at h
          · cases h
          · exact fwd 2 p1 o1 _ (by omega) h
        · split at h
          · exact fwd 3 p1 o1 _ (by omega) h
          · split at h
            · exact fwd 7 p1 o1 _ (by omega) h
            · have := rowF_le g _ _ _ h
              omega
    · split at h
      · injection h with _ h2 _
        omega
      · cases h
theorem dynR_ok {p : Nat} {out : List Nat} {a : Unit} {q : Nat} {o : List Nat} (h : dynR s B p out = .ok a q o) : p ≤ q ∧ q ≤ 8 * s.size := by
  unfold dynR at h
  cases h1 : getR s 5 p out with
  | er e o1 => rw [h1, Rs.bind_er] at h; cases h
  | ok a1 p1 o1 =>
    obtain ⟨_, rfl, rfl, hp1⟩ := getR_ok h1
    rw [h1, Rs.bind_ok] at h
    cases h2 : getR s 5 (p + 5) o1 with
    | er e o1 => rw [h2, Rs.bind_er] at h; cases h
    | ok b1 p1 o1 =>
      obtain ⟨_, rfl, rfl, hp2⟩ := getR_ok h2
      rw [h2, Rs.bind_ok] at h
      cases h3 : getR s 4 (p + 5 + 5) o1 with
      | er e o1 => rw [h3, Rs.bind_er] at h; cases h
      | ok c1 p1 o1 =>
        obtain ⟨_, rfl, rfl, hp3⟩ := getR_ok h3
        rw [h3, Rs.bind_ok] at h
        split at h
        · cases h4 : ownL s (c1 + 4) 0 (zers 19) (p + 5 + 5 + 4) o1 with
          | er e o1 => rw [h4, Rs.bind_er] at h; cases h
          | ok own p1 o1 =>
            have := ownL_ok _ _ _ _ _ h4
            rw [h4, Rs.bind_ok] at h
            unfold dynK at h
            split at h
            · cases h5 : rowF s own (a1 + 257 + (b1 + 1)) (8 * s.size - p1 + 2) [] p1 o1 with
              | er e o1 => rw [h5, Rs.bind_er] at h; cases h
              | ok l p2 o2 =>
                have := rowF_le _ _ _ _ h5
                rw [h5, Rs.bind_ok] at h
                unfold dynT at h
                split at h
                · have := codedF_ok _ _ _ h
                  omega
                · cases h
            · cases h
        · cases h
theorem blockR_ok {k p : Nat} {out : List Nat} {a : Unit} {q : Nat} {o : List Nat} (h : blockR s B k p out = .ok a q o) : p ≤ q ∧ q ≤ 8 * s.size := by
  unfold blockR at h
  split at h
  · exact storedR_ok h
  · split at h
    · exact codedF_ok _ _ _ h
    · split at h
      · rw [dyn_eq] at h
        exact dynR_ok h
      · cases h
theorem block2 (p : Nat) (out : List Nat) : blockR s B 2 p out = dynR s B p out := by rw [← dyn_eq]; rfl
end
section
variable {w0 w : World} {L : List Ob} {j ub rb : Nat} {F : List Nat} {s : ByteArray} {B p : Nat} {out : List Nat}
theorem last_if {g p n : Nat} {out : List Nat} {R : Rs Unit} (h : (if n = 0 then allF s B g p out else .ok () p out) = R) : if ((n : Int) == 0) = true then allF s B g p out = R else R = .ok () p out := by
  by_cases hn : n = 0
  · subst hn; exact h
  · rw [if_neg hn] at h
    rw [if_neg (by simp; omega)]
    exact h.symm
end
end Go.Proofs.YtapcfffmgdpmcaaGreat.If

/-! InQ: inflate: Run walked. -/
namespace Go.Proofs.YtapcfffmgdpmcaaGreat.If
open Go.RowKit Bt Hu

def runV (s : ByteArray) (B : Nat) : Value :=
  match runR s B with
  | .ok _ p out => .tuple #[.string (txt out), .int .i64 (((p + 7) / 8 : Nat) : Int), .int .i64 0]
  | .er er out => .tuple #[.string (txt out), .int .i64 0, .int .i64 er]
theorem allF_le {s : ByteArray} {B : Nat} : ∀ (g p : Nat) (out : List Nat) {a : Unit} {q : Nat} {o : List Nat}, allF s B g p out = .ok a q o → q ≤ 8 * s.size
  | 0, p, out, a, q, o, h => by rw [allF] at h; cases h
  | g + 1, p, out, a, q, o, h => by
    rw [allF] at h
    cases h1 : getR s 1 p out with
    | er e o1 => rw [h1, Rs.bind_er] at h; cases h
    | ok n p1 o1 =>
      rw [h1, Rs.bind_ok] at h
      cases h2 : getR s 2 p1 o1 with
      | er e o1 => rw [h2, Rs.bind_er] at h; cases h
      | ok k p2 o2 =>
        rw [h2, Rs.bind_ok] at h
        cases h3 : blockR s B k p2 o2 with
        | er e o1 => rw [h3, Rs.bind_er] at h; cases h
        | ok u p3 o3 =>
          rw [h3, Rs.bind_ok] at h
          split at h
          · exact allF_le g _ _ h
          · injection h with _ h4 _
            rw [← h4]
            exact (blockR_ok h3).2
theorem runR_le {s : ByteArray} {B : Nat} {a : Unit} {q : Nat} {o : List Nat} (h : runR s B = .ok a q o) : q ≤ 8 * s.size := allF_le _ _ _ h
theorem alloc_new9 {w : World} {o : Obj} {k : Nat} (hk : k = w.heap.size) : (w.alloc o).heap[k]? = some o := by subst hk; exact heap_alloc_at _
end Go.Proofs.YtapcfffmgdpmcaaGreat.If

/-! InR: inflate: LengthOf, DistanceOf, lives walked; examples. -/
namespace Go.Proofs.YtapcfffmgdpmcaaGreat.If
open Go.RowKit Bt Hu

def lastF (f : Nat → Nat) (n lo : Nat) : Nat → Nat
  | 0 => lo
  | k + 1 => if f (lo + (k + 1)) ≤ n then lo + (k + 1) else lastF f n lo k
set_option maxRecDepth 100000 in
set_option maxHeartbeats 4000000 in
theorem last_len (n : Nat) (w : World) : Calls Tryz.prog 66 #[.int .i64 257, .int .i64 285, .int .i64 n, .func (.func 36) #[] #[]] w fun e w' => e = .returned (.int .i64 (lastF lenB n 257 28)) ∧ w = w' := by
  obtain ⟨R, hR⟩ : ∃ R, lastF lenB n 257 28 = R := ⟨_, rfl⟩
  rw [hR]
  have HR := Lib.hid hR
  clear hR
  go_enter Tryz.func66, Tryz.ntmps66
  go_wp2_with fail
  go_loopg [9] 29 (fun g sv wr => ∃ k : Nat, g = k + 1 ∧ k ≤ 28 ∧ sv = .int .i64 ((257 + k : Nat) : Int) ∧ lastF lenB n 257 k = R ∧ w = wr)
  case atStart => exact ⟨28, rfl, by omega, rfl, HR.out, rfl⟩
  case round =>
    clear HR
    obtain ⟨k, rfl, hk, rfl, hR, rfl⟩ := hrel
    cases k with
    | zero =>
      rw [lastF] at hR
      subst hR
      go_wp2_with fail
      go_ret
      exact ⟨rfl, rfl⟩
    | succ k =>
      rw [lastF] at hR
      have hlw := length_walk ((257 + (k + 1) : Nat) : Int) w
      rw [(lenBZ_at (257 + (k + 1)) (by omega) (by omega)).1, (lenBZ_at (257 + (k + 1)) (by omega) (by omega)).2] at hlw
      have ht := len_table (257 + (k + 1)) (by omega)
      obtain ⟨P, hP⟩ : ∃ P, lenB (257 + (k + 1)) = P := ⟨_, rfl⟩
      obtain ⟨X, hX⟩ : ∃ X, lenX (257 + (k + 1)) = X := ⟨_, rfl⟩
      rw [hP] at hR
      rw [hP, hX] at hlw ht
      obtain ⟨q, hq⟩ : ∃ q, 257 + (k + 1) = q := ⟨_, rfl⟩
      rw [hq] at hlw hR ⊢
      have HLW := Lib.hid hlw
      have hq1 : (257 : Int) < (q : Int) := by omega
      have HQ := Lib.hid hq
      clear hlw hP hX hq
      have hqb : (q : Int) ≤ 285 := by have := HQ.out; omega
      by_cases hle : P ≤ n
      · rw [if_pos hle] at hR
        have hle' : (P : Int) ≤ (n : Int) := by omega
        have HR := Lib.hid hR
        clear hR
        go_wp2_with fail
        refine HLW.out.mono ?_
        clear HLW
        rintro e w1 ⟨rfl, rfl⟩
        go_wp2_with fail
        go_ret
        exact ⟨by rw [HR.out]; rfl, rfl⟩
      · rw [if_neg hle] at hR
        have hle' : ¬ (P : Int) ≤ (n : Int) := by omega
        have HR := Lib.hid hR
        clear hR
        go_wp2_with fail
        refine HLW.out.mono ?_
        clear HLW
        rintro e w1 ⟨rfl, rfl⟩
        go_wp2_with fail
        go_roundg (k + 1)
        case measure => omega
        case rel => exact ⟨k, rfl, by omega, by have := HQ.out; congr 1; omega, HR.out, rfl⟩
set_option maxRecDepth 100000 in
set_option maxHeartbeats 4000000 in
theorem last_dst (n : Nat) (w : World) : Calls Tryz.prog 66 #[.int .i64 0, .int .i64 29, .int .i64 n, .func (.func 38) #[] #[]] w fun e w' => e = .returned (.int .i64 (lastF dstB n 0 29)) ∧ w = w' := by
  obtain ⟨R, hR⟩ : ∃ R, lastF dstB n 0 29 = R := ⟨_, rfl⟩
  rw [hR]
  have HR := Lib.hid hR
  clear hR
  go_enter Tryz.func66, Tryz.ntmps66
  go_wp2_with fail
  go_loopg [9] 30 (fun g sv wr => ∃ k : Nat, g = k + 1 ∧ k ≤ 29 ∧ sv = .int .i64 ((0 + k : Nat) : Int) ∧ lastF dstB n 0 k = R ∧ w = wr)
  case atStart => exact ⟨29, rfl, by omega, rfl, HR.out, rfl⟩
  case round =>
    clear HR
    obtain ⟨k, rfl, hk, rfl, hR, rfl⟩ := hrel
    cases k with
    | zero =>
      rw [lastF] at hR
      subst hR
      go_wp2_with fail
      go_ret
      exact ⟨rfl, rfl⟩
    | succ k =>
      rw [lastF] at hR
      have hlw := distance_walk ((0 + (k + 1) : Nat) : Int) w
      rw [(dstBZ_at (0 + (k + 1)) (by omega)).1, (dstBZ_at (0 + (k + 1)) (by omega)).2] at hlw
      have ht := dst_table (0 + (k + 1)) (by omega)
      obtain ⟨P, hP⟩ : ∃ P, dstB (0 + (k + 1)) = P := ⟨_, rfl⟩
      obtain ⟨X, hX⟩ : ∃ X, dstX (0 + (k + 1)) = X := ⟨_, rfl⟩
      rw [hP] at hR
      rw [hP, hX] at hlw ht
      obtain ⟨q, hq⟩ : ∃ q, 0 + (k + 1) = q := ⟨_, rfl⟩
      rw [hq] at hlw hR ⊢
      have HLW := Lib.hid hlw
      have hq1 : (0 : Int) < (q : Int) := by omega
      have HQ := Lib.hid hq
      clear hlw hP hX hq
      have hqb : (q : Int) ≤ 29 := by have := HQ.out; omega
      by_cases hle : P ≤ n
      · rw [if_pos hle] at hR
        have hle' : (P : Int) ≤ (n : Int) := by omega
        have HR := Lib.hid hR
        clear hR
        go_wp2_with fail
        refine HLW.out.mono ?_
        clear HLW
        rintro e w1 ⟨rfl, rfl⟩
        go_wp2_with fail
        go_ret
        exact ⟨by rw [HR.out]; rfl, rfl⟩
      · rw [if_neg hle] at hR
        have hle' : ¬ (P : Int) ≤ (n : Int) := by omega
        have HR := Lib.hid hR
        clear hR
        go_wp2_with fail
        refine HLW.out.mono ?_
        clear HLW
        rintro e w1 ⟨rfl, rfl⟩
        go_wp2_with fail
        go_roundg (k + 1)
        case measure => omega
        case rel => exact ⟨k, rfl, by omega, by have := HQ.out; congr 1; omega, HR.out, rfl⟩
def lenOfZ (n : Int) : Int := if n < 3 ∨ 258 < n then -1 else (lastF lenB n.toNat 257 28 : Nat)
def dstOfZ (n : Int) : Int := if n < 1 ∨ 32768 < n then -1 else (lastF dstB n.toNat 0 29 : Nat)
set_option maxRecDepth 100000 in
set_option maxHeartbeats 4000000 in
theorem lenof_walk (n : Int) (w : World) : Calls Tryz.prog 35 #[.int .i64 n] w fun e w' => e = .returned (.int .i64 (lenOfZ n)) ∧ w = w' := by
  by_cases h1 : n < 3
  · have e1 : lenOfZ n = -1 := by unfold lenOfZ; rw [if_pos (.inl h1)]
    rw [e1]
    clear e1
    go_enter Tryz.func35, Tryz.ntmps35
    go_wp2_with fail
    go_ret
    exact ⟨rfl, rfl⟩
  by_cases h2 : 258 < n
  · have e1 : lenOfZ n = -1 := by unfold lenOfZ; rw [if_pos (.inr h2)]
    rw [e1]
    clear e1
    go_enter Tryz.func35, Tryz.ntmps35
    go_wp2_with fail
    go_ret
    exact ⟨rfl, rfl⟩
  obtain ⟨m, rfl⟩ : ∃ m : Nat, n = m := ⟨n.toNat, by omega⟩
  have e1 : lenOfZ (m : Int) = (lastF lenB m 257 28 : Nat) := by unfold lenOfZ; rw [if_neg (by omega), Int.toNat_natCast]
  rw [e1]
  have HL := Lib.hid (last_len m w)
  clear e1
  generalize lastF lenB m 257 28 = R at *
  go_enter Tryz.func35, Tryz.ntmps35
  go_wp2_with fail
  refine HL.out.mono ?_
  rintro e w1 ⟨rfl, rfl⟩
  go_wp2_with fail
  go_ret
  exact ⟨rfl, rfl⟩
set_option maxRecDepth 100000 in
set_option maxHeartbeats 4000000 in
theorem dstof_walk (n : Int) (w : World) : Calls Tryz.prog 37 #[.int .i64 n] w fun e w' => e = .returned (.int .i64 (dstOfZ n)) ∧ w = w' := by
  by_cases h1 : n < 1
  · have e1 : dstOfZ n = -1 := by unfold dstOfZ; rw [if_pos (.inl h1)]
    rw [e1]
    clear e1
    go_enter Tryz.func37, Tryz.ntmps37
    go_wp2_with fail
    go_ret
    exact ⟨rfl, rfl⟩
  by_cases h2 : 32768 < n
  · have e1 : dstOfZ n = -1 := by unfold dstOfZ; rw [if_pos (.inr h2)]
    rw [e1]
    clear e1
    go_enter Tryz.func37, Tryz.ntmps37
    go_wp2_with fail
    go_ret
    exact ⟨rfl, rfl⟩
  obtain ⟨m, rfl⟩ : ∃ m : Nat, n = m := ⟨n.toNat, by omega⟩
  have e1 : dstOfZ (m : Int) = (lastF dstB m 0 29 : Nat) := by unfold dstOfZ; rw [if_neg (by omega), Int.toNat_natCast]
  rw [e1]
  have HL := Lib.hid (last_dst m w)
  clear e1
  generalize lastF dstB m 0 29 = R at *
  go_enter Tryz.func37, Tryz.ntmps37
  go_wp2_with fail
  refine HL.out.mono ?_
  rintro e w1 ⟨rfl, rfl⟩
  go_wp2_with fail
  go_ret
  exact ⟨rfl, rfl⟩
theorem ex8_1 : runV ⟨#[1, 2, 0, 253, 255, 97, 98]⟩ 9 = .tuple #[.string ⟨#[97, 98]⟩, .int .i64 7, .int .i64 0] := by kernel_rfl
theorem ex8_2 : runV ⟨#[75, 4, 0]⟩ 9 = .tuple #[.string ⟨#[97]⟩, .int .i64 3, .int .i64 0] := by kernel_rfl
end Go.Proofs.YtapcfffmgdpmcaaGreat.If

/-! InT: The law InflateSymbols walked. -/
namespace Go.Proofs.YtapcfffmgdpmcaaGreat.If
open Go.RowKit Bt Hu

theorem lastF_at (f : Nat → Nat) (n lo : Nat) : ∀ k, f lo ≤ n → f (lastF f n lo k) ≤ n ∧ lo ≤ lastF f n lo k ∧ lastF f n lo k ≤ lo + k ∧ (lastF f n lo k < lo + k → n < f (lastF f n lo k + 1))
  | 0, h => ⟨h, Nat.le_refl _, Nat.le_refl _, fun h => by rw [lastF] at h; omega⟩
  | k + 1, h => by
    rw [lastF]
    split
    · exact ⟨‹_›, by omega, by omega, fun h => by omega⟩
    · obtain ⟨h1, h2, h3, h4⟩ := lastF_at f n lo k h
      refine ⟨h1, h2, by omega, fun h5 => ?_⟩
      by_cases h6 : lastF f n lo k < lo + k
      · exact h4 h6
      · have e : lastF f n lo k + 1 = lo + (k + 1) := by omega
        rw [e]
        omega
theorem dst_next : ∀ d, d < 29 → dstB (d + 1) = dstB d + 2 ^ dstX d := by decide +kernel
theorem dst_end : dstB 29 + 2 ^ dstX 29 = 32769 := by decide +kernel
theorem len_next : ∀ n, n < 259 → 3 ≤ n → 257 ≤ lastF lenB n 257 28 ∧ lastF lenB n 257 28 ≤ 285 ∧ lenB (lastF lenB n 257 28) ≤ n ∧ n < lenB (lastF lenB n 257 28) + 2 ^ lenX (lastF lenB n 257 28) ∧ lenX (lastF lenB n 257 28) ≤ 5 ∧ (n = 258 → lastF lenB n 257 28 = 285) := by decide +kernel
theorem dst_of (n : Nat) (h1 : 1 ≤ n) (h2 : n ≤ 32768) : lastF dstB n 0 29 ≤ 29 ∧ dstB (lastF dstB n 0 29) ≤ n ∧ n < dstB (lastF dstB n 0 29) + 2 ^ dstX (lastF dstB n 0 29) ∧ dstX (lastF dstB n 0 29) ≤ 13 := by
  obtain ⟨a1, _, a3, a4⟩ := lastF_at dstB n 0 29 (show dstB 0 ≤ n from h1)
  refine ⟨by omega, a1, ?_, (dst_table _ (by omega)).1⟩
  by_cases h : lastF dstB n 0 29 < 29
  · have := a4 (by omega)
    rw [dst_next _ h] at this
    exact this
  · have e : lastF dstB n 0 29 = 29 := by omega
    rw [e, dst_end]
    omega
end Go.Proofs.YtapcfffmgdpmcaaGreat.If
