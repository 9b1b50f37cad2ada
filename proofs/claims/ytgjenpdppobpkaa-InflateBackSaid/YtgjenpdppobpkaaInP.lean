/-
  inflate: blocks, all walked.
-/
import Derived.Test.YtgjenpdppobpkaaInO
namespace Go.Proofs.Ytgjenpdppobpkaa.If
open Go.RowKit Bt Hu

set_option maxRecDepth 100000 in
set_option maxHeartbeats 4000000 in
theorem bad_walk (a : Value) (w : World) : Calls Try.prog 64 #[a] w fun e w' => e = .panicked [giveV 4] ∧ w = w' := by
  go_enter Try.func64, Try.ntmps64
  go_wp2_with fail
  refine (must_er w).mono ?_
  rintro e w' ⟨rfl, rfl⟩
  go_wp2_with fail
  exact ⟨rfl, rfl, rfl⟩
def fn4 : Array Value := #[.func (.func 61) #[] #[], .func (.func 62) #[] #[], .func (.func 63) #[] #[], .func (.func 64) #[] #[]]
theorem fn4_one : fn4.all (·.oneCell') = true := by simp [fn4, Value.oneCell']
set_option maxRecDepth 100000 in
set_option maxHeartbeats 4000000 in
theorem blocks_walk (w : World) : Calls Try.prog 48 #[] w fun e w' => e = .returned (.agg fn4) ∧ Ext [] w w' := by
  go_enter Try.func48, Try.ntmps48
  go_upto_region 1 with fail
  apply wp_region_lit
  refine wpList_build rfl 90 _ rfl (by kernel_rfl) ?_
  refine wpList_at9 (a' := { tmps := #[.pointer (some ⟨w.heap.size, 0, none⟩), .agg fn4], defers := [] }) (by kernel_rfl) ?_
  refine wpList_store_row rfl 90 _ _ rfl w.heap.size fn4 rfl rfl 90 _ (heap_alloc_at _) (by kernel_rfl) rfl fn4_one ?_
  apply wpList_nil
  obtain ⟨hX, hW⟩ := alloc_row w #[.nilFunc, .nilFunc, .nilFunc, .nilFunc] fn4 90
  obtain ⟨W, hWW⟩ : ∃ W, (w.alloc (.cells #[.nilFunc, .nilFunc, .nilFunc, .nilFunc] 90)).setRow w.heap.size fn4 = W := ⟨_, rfl⟩
  rw [hWW] at hW hX ⊢
  clear hWW
  go_wp2_with fail
  refine bodyPost_ret (results_cell_row rfl _ _ w.heap.size 90 fn4 (0, 0) _ rfl hW Try.underlying90 rfl (by kernel_rfl)) rfl ?_
  exact ⟨rfl, hX⟩
section
variable {s : ByteArray} {B : Nat}
theorem storeL_ok : ∀ (n p : Nat) (out : List Nat) {a : Unit} {q : Nat} {o : List Nat}, p ≤ 8 * s.size → storeL s B n p out = .ok a q o → p ≤ q ∧ q ≤ 8 * s.size
  | 0, p, out, a, q, o, hp, h => by rw [storeL] at h; injection h with _ h2 _; omega
  | n + 1, p, out, a, q, o, hp, h => by
    rw [storeL] at h
    cases h1 : getR s 8 p out with
    | er e o1 => rw [h1, Rs.bind_er] at h; cases h
    | ok b p1 o1 =>
      obtain ⟨_, rfl, rfl, hp1⟩ := getR_ok h1
      rw [h1, Rs.bind_ok] at h
      cases h2 : putR B b (p + 8) o1 with
      | er e o2 => rw [h2, Rs.bind_er] at h; cases h
      | ok u p2 o2 =>
        obtain ⟨rfl, _, _⟩ := putR_ok h2
        rw [h2, Rs.bind_ok] at h
        have := storeL_ok n _ _ hp1 h
        omega
theorem storedR_ok {p : Nat} {out : List Nat} {a : Unit} {q : Nat} {o : List Nat} (h : storedR s B p out = .ok a q o) : p ≤ q ∧ q ≤ 8 * s.size := by
  unfold storedR at h
  cases h1 : getR s 16 (p + gap p) out with
  | er e o1 => rw [h1, Rs.bind_er] at h; cases h
  | ok n p1 o1 =>
    obtain ⟨_, rfl, rfl, hp1⟩ := getR_ok h1
    rw [h1, Rs.bind_ok] at h
    cases h2 : getR s 16 (p + gap p + 16) o1 with
    | er e o2 => rw [h2, Rs.bind_er] at h; cases h
    | ok m p2 o2 =>
      obtain ⟨_, rfl, rfl, hp2⟩ := getR_ok h2
      rw [h2, Rs.bind_ok] at h
      split at h
      · have := storeL_ok _ _ _ hp2 h
        omega
      · cases h
theorem codedF_ok {D1 D2 : List Int} : ∀ (g p : Nat) (out : List Nat) {a : Unit} {q : Nat} {o : List Nat}, codedF s B D1 D2 g p out = .ok a q o → p ≤ q ∧ q ≤ 8 * s.size
  | 0, p, out, a, q, o, h => by rw [codedF] at h; cases h
  | g + 1, p, out, a, q, o, h => by
    rw [codedF] at h
    cases h1 : symR s D1 p out with
    | er e o1 => rw [h1, Rs.bind_er] at h; cases h
    | ok x p1 o1 =>
      obtain ⟨hp0, hp1, _, rfl⟩ := symR_ok h1
      rw [h1, Rs.bind_ok] at h
      split at h
      · cases h2 : putR B x p1 o1 with
        | er e o2 => rw [h2, Rs.bind_er] at h; cases h
        | ok u p2 o2 =>
          obtain ⟨rfl, _, _⟩ := putR_ok h2
          rw [h2, Rs.bind_ok] at h
          have := codedF_ok g _ _ h
          omega
      · split at h
        · injection h with _ h2 _
          omega
        · split at h
          · cases h2 : againR s B x D2 p1 o1 with
            | er e o2 => rw [h2, Rs.bind_er] at h; cases h
            | ok u p2 o2 =>
              have := againR_ok h2
              rw [h2, Rs.bind_ok] at h
              have := codedF_ok g _ _ h
              omega
          · cases h
theorem ownL_ok : ∀ (k i : Nat) (own : List Int) (p : Nat) (out : List Nat) {a : List Int} {q : Nat} {o : List Nat}, ownL s k i own p out = .ok a q o → p ≤ q
  | 0, i, own, p, out, a, q, o, h => by rw [ownL] at h; injection h with _ h2 _; omega
  | k + 1, i, own, p, out, a, q, o, h => by
    rw [ownL] at h
    cases h1 : getR s 3 p out with
    | er e o1 => rw [h1, Rs.bind_er] at h; cases h
    | ok b p1 o1 =>
      obtain ⟨_, rfl, rfl, hp1⟩ := getR_ok h1
      rw [h1, Rs.bind_ok] at h
      have := ownL_ok k _ _ _ _ h
      omega
theorem rowF_le {D : List Int} {n : Nat} : ∀ (g : Nat) (l : List Int) (p : Nat) (out : List Nat) {a : List Int} {q : Nat} {o : List Nat}, rowF s D n g l p out = .ok a q o → p ≤ q
  | 0, l, p, out, a, q, o, h => by rw [rowF] at h; cases h
  | g + 1, l, p, out, a, q, o, h => by
    have fwd : ∀ (k p1 : Nat) (o1 : List Nat) (f : Nat → List Int), p ≤ p1 → ((getR s k p1 o1).bind fun k p out => rowF s D n g (f k) p out) = .ok a q o → p ≤ q := fun k p1 o1 f hp h => by
      cases h2 : getR s k p1 o1 with
      | er e o => rw [h2, Rs.bind_er] at h; cases h
      | ok k p2 o2 =>
        obtain ⟨_, rfl, rfl, _⟩ := getR_ok h2
        rw [h2, Rs.bind_ok] at h
        have := rowF_le g _ _ _ h
        omega
    rw [rowF] at h
    split at h
    · cases h1 : symR s D p out with
      | er e o => rw [h1, Rs.bind_er] at h; cases h
      | ok x p1 o1 =>
        obtain ⟨hp0, _, _, rfl⟩ := symR_ok h1
        rw [h1, Rs.bind_ok] at h
        split at h
        · split at h
          · cases h
          · exact fwd 2 p1 o1 _ (by omega) h
        · split at h
          · exact fwd 3 p1 o1 _ (by omega) h
          · split at h
            · exact fwd 7 p1 o1 _ (by omega) h
            · have := rowF_le g _ _ _ h
              omega
    · split at h
      · injection h with _ h2 _
        omega
      · cases h
theorem dynR_ok {p : Nat} {out : List Nat} {a : Unit} {q : Nat} {o : List Nat} (h : dynR s B p out = .ok a q o) : p ≤ q ∧ q ≤ 8 * s.size := by
  unfold dynR at h
  cases h1 : getR s 5 p out with
  | er e o1 => rw [h1, Rs.bind_er] at h; cases h
  | ok a1 p1 o1 =>
    obtain ⟨_, rfl, rfl, hp1⟩ := getR_ok h1
    rw [h1, Rs.bind_ok] at h
    cases h2 : getR s 5 (p + 5) o1 with
    | er e o1 => rw [h2, Rs.bind_er] at h; cases h
    | ok b1 p1 o1 =>
      obtain ⟨_, rfl, rfl, hp2⟩ := getR_ok h2
      rw [h2, Rs.bind_ok] at h
      cases h3 : getR s 4 (p + 5 + 5) o1 with
      | er e o1 => rw [h3, Rs.bind_er] at h; cases h
      | ok c1 p1 o1 =>
        obtain ⟨_, rfl, rfl, hp3⟩ := getR_ok h3
        rw [h3, Rs.bind_ok] at h
        split at h
        · cases h4 : ownL s (c1 + 4) 0 (zers 19) (p + 5 + 5 + 4) o1 with
          | er e o1 => rw [h4, Rs.bind_er] at h; cases h
          | ok own p1 o1 =>
            have := ownL_ok _ _ _ _ _ h4
            rw [h4, Rs.bind_ok] at h
            unfold dynK at h
            split at h
            · cases h5 : rowF s own (a1 + 257 + (b1 + 1)) (8 * s.size - p1 + 2) [] p1 o1 with
              | er e o1 => rw [h5, Rs.bind_er] at h; cases h
              | ok l p2 o2 =>
                have := rowF_le _ _ _ _ h5
                rw [h5, Rs.bind_ok] at h
                unfold dynT at h
                split at h
                · have := codedF_ok _ _ _ h
                  omega
                · cases h
            · cases h
        · cases h
theorem blockR_ok {k p : Nat} {out : List Nat} {a : Unit} {q : Nat} {o : List Nat} (h : blockR s B k p out = .ok a q o) : p ≤ q ∧ q ≤ 8 * s.size := by
  unfold blockR at h
  split at h
  · exact storedR_ok h
  · split at h
    · exact codedF_ok _ _ _ h
    · split at h
      · rw [dyn_eq] at h
        exact dynR_ok h
      · cases h
theorem block2 (p : Nat) (out : List Nat) : blockR s B 2 p out = dynR s B p out := by rw [← dyn_eq]; rfl
end
theorem idx_0 (w : World) : (Instr.index 90 (.agg #[.func (.func 61) #[] #[], .func (.func 62) #[] #[], .func (.func 63) #[] #[], .func (.func 64) #[] #[]]) (.int .i64 0)).run Try.prog w = .ok (.func (.func 61) #[] #[]) w := by kernel_rfl
theorem idx_1 (w : World) : (Instr.index 90 (.agg #[.func (.func 61) #[] #[], .func (.func 62) #[] #[], .func (.func 63) #[] #[], .func (.func 64) #[] #[]]) (.int .i64 1)).run Try.prog w = .ok (.func (.func 62) #[] #[]) w := by kernel_rfl
theorem idx_2 (w : World) : (Instr.index 90 (.agg #[.func (.func 61) #[] #[], .func (.func 62) #[] #[], .func (.func 63) #[] #[], .func (.func 64) #[] #[]]) (.int .i64 2)).run Try.prog w = .ok (.func (.func 63) #[] #[]) w := by kernel_rfl
theorem idx_3 (w : World) : (Instr.index 90 (.agg #[.func (.func 61) #[] #[], .func (.func 62) #[] #[], .func (.func 63) #[] #[], .func (.func 64) #[] #[]]) (.int .i64 3)).run Try.prog w = .ok (.func (.func 64) #[] #[]) w := by kernel_rfl
section
variable {w0 w : World} {L : List Ob} {j ub rb : Nat} {F : List Nat} {s : ByteArray} {B p : Nat} {out : List Nat}
theorem last_if {g p n : Nat} {out : List Nat} {R : Rs Unit} (h : (if n = 0 then allF s B g p out else .ok () p out) = R) : if ((n : Int) == 0) = true then allF s B g p out = R else R = .ok () p out := by
  by_cases hn : n = 0
  · subst hn; exact h
  · rw [if_neg hn] at h
    rw [if_neg (by simp; omega)]
    exact h.symm
set_option maxRecDepth 100000 in
set_option maxHeartbeats 8000000 in
theorem a_all (hj : j < L.length) (S : Sep w0 w (L.set j (oRun ub rb F s B p out))) (hs : s.size ≤ 1048576) (hp : p ≤ 8 * s.size) (hB : B ≤ 1099511627776) :
    Calls Try.prog 32 #[.pointer (some ⟨ub, 0, none⟩)] w (Pst w0 L j ub rb s B unit9 (allF s B (8 * s.size - p + 1) p out)) := by
  have HS := Lib.hid S
  obtain ⟨R, hR⟩ : ∃ R, allF s B (8 * s.size - p + 1) p out = R := ⟨_, rfl⟩
  rw [hR]
  have HR := Lib.hid hR
  clear S hR
  go_enter Try.func32, Try.ntmps32
  go_wp2_with fail
  go_loopg [2] (8 * s.size - p + 1) (fun g mv wr => ∃ (m : Bool) (p : Nat) (F' out : List Nat), mv = .bool m ∧ p ≤ 8 * s.size ∧ 8 * s.size - p < g ∧ (if m = true then allF s B g p out = R else R = .ok () p out) ∧ Sep w0 wr (L.set j (oRun ub rb F' s B p out)))
  case atStart => exact ⟨true, p, F, out, rfl, hp, by omega, HR.out, HS.out⟩
  case round =>
    clear HS HR hp
    obtain ⟨m, p, F', out, rfl, hp, hpg, hR, S⟩ := hrel
    have HS := Lib.hid S
    clear S
    cases m with
    | false =>
      have HR := Lib.hid (show R = .ok () p out from hR)
      clear hR
      go_wp2_with fail
      go_end0
      exact Pst.ok HR.out rfl F' HS.out
    | true =>
      have hR : allF s B gk p out = R := hR
      obtain ⟨g, rfl⟩ : ∃ g, gk = g + 1 := ⟨gk - 1, by omega⟩
      rw [allF] at hR
      cases h1 : getR s 1 p out with
      | er e1 o1 =>
        rw [h1, Rs.bind_er] at hR
        have HH := Lib.hid (⟨h1, hR⟩ : _ ∧ _)
        clear h1 hR
        go_wp2_with fail
        refine (a_get 1 hj HS.out hs hp (by omega)).mono ?_
        rw [HH.out.1]
        rintro e w2 ⟨rfl, F2, p', S⟩
        go_wp2_with fail
        exact ⟨rfl, Pst.er HH.out.2.symm rfl F2 S⟩
      | ok n q1 o1 =>
        obtain ⟨hn, rfl, rfl, hp1⟩ := getR_ok h1
        rw [h1, Rs.bind_ok] at hR
        have HH := Lib.hid h1
        have HR := Lib.hid hR
        clear h1 hR hn
        go_wp2_with fail
        refine (a_get 1 hj HS.out hs hp (by omega)).mono ?_
        rw [HH.out]
        rintro e v1 ⟨rfl, F1, S⟩
        rw [izN_eq]
        have HS := Lib.hid S
        have hR := HR.out
        clear S HR HH
        go_wp2_with fail
        refine (blocks_walk v1).mono ?_
        rintro e v9 ⟨rfl, hx⟩
        unfold fn4
        have HS := Lib.hid (HS.out.quiet hx)
        clear hx
        cases h1 : getR s 2 (p + 1) o1 with
        | er e1 o2 =>
          rw [h1, Rs.bind_er] at hR
          have HH := Lib.hid (⟨h1, hR⟩ : _ ∧ _)
          clear h1 hR
          go_wp2_with fail
          refine (a_get 2 hj HS.out hs hp1 (by omega)).mono ?_
          rw [HH.out.1]
          rintro e w2 ⟨rfl, F2, p', S⟩
          go_wp2_with fail
          exact ⟨rfl, Pst.er HH.out.2.symm rfl F2 S⟩
        | ok k q2 o2 =>
          obtain ⟨hk, rfl, rfl, hp2⟩ := getR_ok h1
          have hk5 : k < 2 ^ 2 := by rw [hk]; exact getv_lt s false (p + 1) 2
          rw [h1, Rs.bind_ok] at hR
          have HH := Lib.hid h1
          have HR := Lib.hid hR
          clear h1 hR hk
          go_wp2_with fail
          refine (a_get 2 hj HS.out hs hp1 (by omega)).mono ?_
          rw [HH.out]
          rintro e v2 ⟨rfl, F2, S⟩
          rw [izN_eq]
          have HS := Lib.hid S
          have hR := HR.out
          clear S HR HH
          obtain rfl | rfl | rfl | rfl : k = 0 ∨ k = 1 ∨ k = 2 ∨ k = 3 := by omega
          · have hcall : Calls Try.prog 61 #[.pointer (some ⟨ub, 0, none⟩)] v2 (Pst w0 L j ub rb s B unit9 (blockR s B 0 (p + 1 + 2) o2)) := a_stored hj HS.out hs hp2 hB
            have HCL := Lib.hid hcall
            have hix := idx_0
            clear hcall
            cases h3 : blockR s B 0 (p + 1 + 2) o2 with
            | er e1 o3 =>
              rw [h3, Rs.bind_er] at hR
              have H3 := Lib.hid (⟨h3, hR⟩ : _ ∧ _)
              clear h3 hR
              go_wp2_with fail
              refine HCL.out.mono ?_
              rw [H3.out.1]
              rintro e w4 ⟨rfl, F4, p', S⟩
              go_wp2_with fail
              exact ⟨rfl, Pst.er H3.out.2.symm rfl F4 S⟩
            | ok u p3 o3 =>
              have hq := blockR_ok h3
              rw [h3, Rs.bind_ok] at hR
              have H3 := Lib.hid (⟨h3, hR⟩ : _ ∧ _)
              clear h3 hR
              go_wp2_with fail
              refine HCL.out.mono ?_
              rw [H3.out.1]
              rintro e w4 ⟨rfl, F4, S⟩
              go_wp2_with fail
              go_roundg g
              case measure => omega
              case rel => exact ⟨_, p3, F4, o3, rfl, hq.2, by omega, last_if H3.out.2, S⟩
          · have hcall : Calls Try.prog 62 #[.pointer (some ⟨ub, 0, none⟩)] v2 (Pst w0 L j ub rb s B unit9 (blockR s B 1 (p + 1 + 2) o2)) := a_fixed hj HS.out hs hp2 hB
            have HCL := Lib.hid hcall
            have hix := idx_1
            clear hcall
            cases h3 : blockR s B 1 (p + 1 + 2) o2 with
            | er e1 o3 =>
              rw [h3, Rs.bind_er] at hR
              have H3 := Lib.hid (⟨h3, hR⟩ : _ ∧ _)
              clear h3 hR
              go_wp2_with fail
              refine HCL.out.mono ?_
              rw [H3.out.1]
              rintro e w4 ⟨rfl, F4, p', S⟩
              go_wp2_with fail
              exact ⟨rfl, Pst.er H3.out.2.symm rfl F4 S⟩
            | ok u p3 o3 =>
              have hq := blockR_ok h3
              rw [h3, Rs.bind_ok] at hR
              have H3 := Lib.hid (⟨h3, hR⟩ : _ ∧ _)
              clear h3 hR
              go_wp2_with fail
              refine HCL.out.mono ?_
              rw [H3.out.1]
              rintro e w4 ⟨rfl, F4, S⟩
              go_wp2_with fail
              go_roundg g
              case measure => omega
              case rel => exact ⟨_, p3, F4, o3, rfl, hq.2, by omega, last_if H3.out.2, S⟩
          · have hcall : Calls Try.prog 63 #[.pointer (some ⟨ub, 0, none⟩)] v2 (Pst w0 L j ub rb s B unit9 (blockR s B 2 (p + 1 + 2) o2)) := by rw [block2]; exact a_dyn hj HS.out hs hp2 hB
            have HCL := Lib.hid hcall
            have hix := idx_2
            clear hcall
            cases h3 : blockR s B 2 (p + 1 + 2) o2 with
            | er e1 o3 =>
              rw [h3, Rs.bind_er] at hR
              have H3 := Lib.hid (⟨h3, hR⟩ : _ ∧ _)
              clear h3 hR
              go_wp2_with fail
              refine HCL.out.mono ?_
              rw [H3.out.1]
              rintro e w4 ⟨rfl, F4, p', S⟩
              go_wp2_with fail
              exact ⟨rfl, Pst.er H3.out.2.symm rfl F4 S⟩
            | ok u p3 o3 =>
              have hq := blockR_ok h3
              rw [h3, Rs.bind_ok] at hR
              have H3 := Lib.hid (⟨h3, hR⟩ : _ ∧ _)
              clear h3 hR
              go_wp2_with fail
              refine HCL.out.mono ?_
              rw [H3.out.1]
              rintro e w4 ⟨rfl, F4, S⟩
              go_wp2_with fail
              go_roundg g
              case measure => omega
              case rel => exact ⟨_, p3, F4, o3, rfl, hq.2, by omega, last_if H3.out.2, S⟩
          · have hcall : Calls Try.prog 64 #[.pointer (some ⟨ub, 0, none⟩)] v2 (Pst w0 L j ub rb s B unit9 (blockR s B 3 (p + 1 + 2) o2)) := (bad_walk _ v2).mono (fun e w' h => by obtain ⟨h1, rfl⟩ := h; exact ⟨h1, F2, _, HS.out⟩)
            have HCL := Lib.hid hcall
            have hix := idx_3
            clear hcall
            cases h3 : blockR s B 3 (p + 1 + 2) o2 with
            | er e1 o3 =>
              rw [h3, Rs.bind_er] at hR
              have H3 := Lib.hid (⟨h3, hR⟩ : _ ∧ _)
              clear h3 hR
              go_wp2_with fail
              refine HCL.out.mono ?_
              rw [H3.out.1]
              rintro e w4 ⟨rfl, F4, p', S⟩
              go_wp2_with fail
              exact ⟨rfl, Pst.er H3.out.2.symm rfl F4 S⟩
            | ok u p3 o3 =>
              have hq := blockR_ok h3
              rw [h3, Rs.bind_ok] at hR
              have H3 := Lib.hid (⟨h3, hR⟩ : _ ∧ _)
              clear h3 hR
              go_wp2_with fail
              refine HCL.out.mono ?_
              rw [H3.out.1]
              rintro e w4 ⟨rfl, F4, S⟩
              go_wp2_with fail
              go_roundg g
              case measure => omega
              case rel => exact ⟨_, p3, F4, o3, rfl, hq.2, by omega, last_if H3.out.2, S⟩
end
end Go.Proofs.Ytgjenpdppobpkaa.If
