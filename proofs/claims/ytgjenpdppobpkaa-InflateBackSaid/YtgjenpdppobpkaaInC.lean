/-
  inflate: get, put, symbol walked.
-/
import Derived.Test.YtgjenpdppobpkaaInB
namespace Go.Proofs.Ytgjenpdppobpkaa.If
open Go.RowKit Bt Hu

def izN : Nat → Value := fun a => .int .i64 (a : Int)
theorem RunO.cells {w : World} {ub rb : Nat} {F : List Nat} {s : ByteArray} {B p : Nat} {out : List Nat} (h : RunO w ub rb F s B p out) :
    ∃ ao cap, w.cell? ⟨ub, 0, none⟩ = some (.pointer (some ⟨rb, 0, none⟩)) ∧ w.cell? ⟨ub, 1, none⟩ = some (.slice ao out.length cap) ∧ w.cell? ⟨ub, 2, none⟩ = some (.int .i64 B) ∧ w.frozen? ⟨ub, 1, none⟩ = false ∧ w.ownsRow 0 5 1 (.slice ao out.length cap) out.length (out.map b8) := by
  obtain ⟨⟨v, h1, h2, _⟩, _⟩ := h
  obtain ⟨ao, cap, rfl⟩ := own_slice h2
  exact ⟨ao, cap, cellOf h1 0, cellOf h1 1, cellOf h1 2, freeOf h1 1, h2⟩
/-- an object taken apart in two -/
theorem Sep.cut {w0 w : World} {L : List Ob} {j : Nat} {o : Ob} (h : Sep w0 w L) (hj : L[j]? = some o) (a b : Ob) (ha : ∀ k ∈ a.F, k ∈ o.F) (hb : ∀ k ∈ b.F, k ∈ o.F) (hab : ∀ k ∈ a.F, k ∉ b.F) (pa : a.P w) (pb : b.P w) : Sep w0 w (a :: L.set j b) := by
  have hjl : j < L.length := (List.getElem?_eq_some_iff.1 hj).1
  have hget : ∀ i c, (L.set j b)[i]? = some c → (i = j ∧ c = b) ∨ (i ≠ j ∧ L[i]? = some c) := fun i c hi => by
    by_cases hij : i = j
    · subst hij; rw [List.getElem?_set_self hjl] at hi; exact .inl ⟨rfl, (Option.some.inj hi).symm⟩
    · rw [List.getElem?_set_ne (Ne.symm hij)] at hi; exact .inr ⟨hij, hi⟩
  have hbase : ∀ k ∈ o.F, w0.heap.size ≤ k := h.base o (List.mem_of_getElem? hj)
  have far : ∀ i c, i ≠ j → L[i]? = some c → ∀ k ∈ o.F, k ∉ c.F := fun i c hij hi => h.apart j i o c hj hi (Ne.symm hij)
  have one : ∀ (i : Nat) (c : Ob), (L.set j b)[i]? = some c → ∀ k ∈ a.F, k ∉ c.F := fun i c hi k hk => by
    rcases hget i c hi with ⟨_, rfl⟩ | ⟨hij, hc⟩
    · exact hab k hk
    · exact far i c hij hc k (ha k hk)
  refine ⟨h.ext, fun c hc => ?_, fun c hc k hk => ?_, fun x y c d hx hy hxy k hk hkd => ?_⟩
  · rcases List.mem_cons.1 hc with rfl | hc
    · exact pa
    · obtain ⟨i, hi⟩ := List.getElem?_of_mem hc
      rcases hget i c hi with ⟨_, rfl⟩ | ⟨_, hc⟩
      · exact pb
      · exact h.each c (List.mem_of_getElem? hc)
  · rcases List.mem_cons.1 hc with rfl | hc
    · exact hbase k (ha k hk)
    · obtain ⟨i, hi⟩ := List.getElem?_of_mem hc
      rcases hget i c hi with ⟨_, rfl⟩ | ⟨_, hc⟩
      · exact hbase k (hb k hk)
      · exact h.base c (List.mem_of_getElem? hc) k hk
  · cases x with
    | zero =>
      obtain rfl : a = c := by simpa using hx
      cases y with
      | zero => exact hxy rfl
      | succ y => exact one y d (by simpa using hy) k hk hkd
    | succ x =>
      cases y with
      | zero =>
        obtain rfl : a = d := by simpa using hy
        exact one x c (by simpa using hx) k hkd hk
      | succ y =>
        have hx' : (L.set j b)[x]? = some c := by simpa using hx
        have hy' : (L.set j b)[y]? = some d := by simpa using hy
        rcases hget x c hx' with ⟨rfl, rfl⟩ | ⟨hxj, hc⟩
        · rcases hget y d hy' with ⟨rfl, _⟩ | ⟨hyj, hd⟩
          · exact hxy rfl
          · exact far y d hyj hd k (hb k hk) hkd
        · rcases hget y d hy' with ⟨rfl, rfl⟩ | ⟨hyj, hd⟩
          · exact far x c hxj hc k (hb k hkd) hk
          · exact h.apart x y c d hc hd (by omega) k hk hkd
/-- two objects taken as one -/
theorem Sep.glue {w0 w : World} {L : List Ob} {j : Nat} {a b : Ob} (h : Sep w0 w (a :: L)) (hj : L[j]? = some b) (o : Ob) (ho : ∀ k ∈ o.F, k ∈ a.F ∨ k ∈ b.F) (po : o.P w) : Sep w0 w (L.set j o) := by
  have hjl : j < L.length := (List.getElem?_eq_some_iff.1 hj).1
  have hget : ∀ i c, (L.set j o)[i]? = some c → (i = j ∧ c = o) ∨ (i ≠ j ∧ L[i]? = some c) := fun i c hi => by
    by_cases hij : i = j
    · subst hij; rw [List.getElem?_set_self hjl] at hi; exact .inl ⟨rfl, (Option.some.inj hi).symm⟩
    · rw [List.getElem?_set_ne (Ne.symm hij)] at hi; exact .inr ⟨hij, hi⟩
  have far : ∀ i c, i ≠ j → L[i]? = some c → ∀ k ∈ o.F, k ∉ c.F := fun i c hij hi k hk => by
    rcases ho k hk with hk | hk
    · exact h.apart 0 (i + 1) a c (by simp) (by simpa using hi) (by omega) k hk
    · exact h.apart (j + 1) (i + 1) b c (by simpa using hj) (by simpa using hi) (by omega) k hk
  refine ⟨h.ext, fun c hc => ?_, fun c hc k hk => ?_, fun x y c d hx hy hxy k hk hkd => ?_⟩
  · obtain ⟨i, hi⟩ := List.getElem?_of_mem hc
    rcases hget i c hi with ⟨_, rfl⟩ | ⟨_, hc⟩
    · exact po
    · exact h.each c (List.mem_cons_of_mem _ (List.mem_of_getElem? hc))
  · obtain ⟨i, hi⟩ := List.getElem?_of_mem hc
    rcases hget i c hi with ⟨_, rfl⟩ | ⟨_, hc⟩
    · rcases ho k hk with hk | hk
      · exact h.base a (by simp) k hk
      · exact h.base b (List.mem_cons_of_mem _ (List.mem_of_getElem? hj)) k hk
    · exact h.base c (List.mem_cons_of_mem _ (List.mem_of_getElem? hc)) k hk
  · rcases hget x c hx with ⟨rfl, rfl⟩ | ⟨hxj, hc⟩
    · rcases hget y d hy with ⟨rfl, _⟩ | ⟨hyj, hd⟩
      · exact hxy rfl
      · exact far y d hyj hd k hk hkd
    · rcases hget y d hy with ⟨rfl, rfl⟩ | ⟨hyj, hd⟩
      · exact far x c hxj hc k hkd hk
      · exact h.apart (x + 1) (y + 1) c d (by simpa using hc) (by simpa using hd) (by omega) k hk hkd
/-- a run without its reader -/
def oRest (ub rb : Nat) (v : Value) (B : Nat) (out : List Nat) : Ob where
  F := ub :: v.ownBlock.toList
  P := fun w => w.heap[ub]? = some (runC rb v B) ∧ w.ownsRow 0 5 1 v out.length (out.map b8)
  ok := fun h hx hS => ⟨hx.keep h.1 (hS ub (by simp)), ownsRow_ext h.2 hx (fun g hg => hS g (by simp [hg]))⟩
  lt := fun h => by
    intro k hk
    rcases List.mem_cons.1 hk with rfl | hk
    · exact lt_of_block h.1
    · exact (h.2.lt k (by simpa using hk)).2
theorem run_cut {w0 w : World} {L : List Ob} {j ub rb : Nat} {F : List Nat} {s : ByteArray} {B p : Nat} {out : List Nat} (S : Sep w0 w L) (hL : L[j]? = some (oRun ub rb F s B p out)) :
    ∃ v, F = ub :: rb :: v.ownBlock.toList ∧ v.ownBlock ≠ some ub ∧ v.ownBlock ≠ some rb ∧ ub ≠ rb ∧ Sep w0 w (oR rb s p false :: L.set j (oRest ub rb v B out)) := by
  obtain ⟨⟨v, h1, h2, rfl, h4, h5⟩, hr, hn⟩ : RunO w ub rb F s B p out := S.get j hL
  refine ⟨v, rfl, h4, h5, hn, Sep.cut S hL _ _ (fun k hk => ?_) (fun k hk => ?_) (fun k hk hm => ?_) hr ⟨h1, h2⟩⟩
  · obtain rfl : k = rb := by simpa [oR, Ob.one] using hk
    simp [oRun]
  · rcases List.mem_cons.1 hk with rfl | hk
    · simp [oRun]
    · simp only [oRun, List.mem_cons]
      exact .inr (.inr hk)
  · obtain rfl : k = rb := by simpa [oR, Ob.one] using hk
    rcases List.mem_cons.1 hm with rfl | hm
    · exact hn rfl
    · exact h5 (by simpa using hm)
theorem run_glue {w0 w : World} {L : List Ob} {j ub rb : Nat} {v : Value} {s : ByteArray} {B p : Nat} {out : List Nat} (hj : j < L.length) (h4 : v.ownBlock ≠ some ub) (h5 : v.ownBlock ≠ some rb) (hn : ub ≠ rb) (S : Sep w0 w (oR rb s p false :: L.set j (oRest ub rb v B out))) :
    Sep w0 w (L.set j (oRun ub rb (ub :: rb :: v.ownBlock.toList) s B p out)) := by
  have hb : (L.set j (oRest ub rb v B out))[j]? = some (oRest ub rb v B out) := List.getElem?_set_self hj
  have h1 : w.heap[ub]? = some (runC rb v B) ∧ w.ownsRow 0 5 1 v out.length (out.map b8) := S.get (j + 1) (by simpa using hb)
  have h2 : w.heap[rb]? = some (rdr s p false) := S.get 0 rfl
  have := Sep.glue S hb (oRun ub rb (ub :: rb :: v.ownBlock.toList) s B p out) (fun k hk => by
    rcases List.mem_cons.1 hk with rfl | hk
    · exact .inr (by simp [oRest])
    · rcases List.mem_cons.1 hk with rfl | hk
      · exact .inl (by simp [oR, Ob.one])
      · exact .inr (List.mem_cons_of_mem _ hk)) ⟨⟨v, h1.1, h1.2, rfl, h4, h5⟩, h2, hn⟩
  rwa [List.set_set] at this
section
variable {w0 w : World} {L : List Ob} {j ub rb : Nat} {F : List Nat} {s : ByteArray} {B p : Nat} {out : List Nat}
set_option maxRecDepth 100000 in
set_option maxHeartbeats 4000000 in
theorem c_get (n : Nat) (S : Sep w0 w L) (hL : L[j]? = some (oRun ub rb F s B p out)) (hs : s.size ≤ 1048576) (hp : p ≤ 8 * s.size) (hn : n ≤ 16) :
    Calls Try.prog 47 #[.pointer (some ⟨ub, 0, none⟩), .int .i64 n] w (Pst w0 L j ub rb s B izN (getR s n p out)) := by
  have hO : RunO w ub rb F s B p out := S.get j hL
  obtain ⟨ao, cap, c0, _, _, _, _⟩ := hO.cells
  have HO := Lib.hid hO
  have HS := Lib.hid S
  have HL := Lib.hid hL
  clear hO S hL
  by_cases hm : p + n ≤ 8 * s.size
  · have hR : getR s n p out = .ok (getv s false p n) (p + n) out := by unfold getR; rw [if_pos hm]
    have hv := getv8 s p n hn
    have HR := Lib.hid hR
    clear hR
    go_enter Try.func47, Try.ntmps47
    go_wp2_with fail
    refine (get_ok rb s p n false w (by omega) (by omega) hm HO.out.rd).mono ?_
    rintro e w1 ⟨rfl, hr, hx⟩
    obtain ⟨v, hvv⟩ : ∃ v, getv s false p n = v := ⟨_, rfl⟩
    rw [hvv] at hv HR ⊢
    have HX := Lib.hid (⟨hr, hx⟩ : _ ∧ _)
    clear hr hx hvv c0
    go_wp2_with fail
    refine (check_ok w1).mono ?_
    rintro e w2 ⟨rfl, rfl⟩
    go_wp2_with fail
    go_ret
    have hFm : rb ∈ F := by obtain ⟨⟨_, _, _, rfl, _⟩, _⟩ := HO.out; simp
    refine Pst.ok HR.out (by unfold izN; rfl) F (HS.out.upd j _ HL.out (HX.out.2.mono (fun k _ hk => by rw [List.mem_singleton] at hk; subst hk; exact hFm)) (Fr.refl _ _) (HO.out.read HX.out.2 HX.out.1))
  · have hR : getR s n p out = .er 8 out := by unfold getR; rw [if_neg hm]
    have HR := Lib.hid hR
    clear hR
    go_enter Try.func47, Try.ntmps47
    go_wp2_with fail
    refine (get_more rb s p n false w (by omega) (by omega) hp (by omega) HO.out.rd).mono ?_
    rintro e w1 ⟨rfl, hx⟩
    have HX := Lib.hid hx
    clear hx c0
    go_wp2_with fail
    refine (check_er 8 rfl w1).mono ?_
    rintro e w2 ⟨rfl, rfl⟩
    go_wp2_with fail
    refine ⟨rfl, Pst.er HR.out rfl F (p := p) ?_⟩
    rw [set_same HL.out]
    exact HS.out.quiet HX.out
set_option maxRecDepth 100000 in
set_option maxHeartbeats 4000000 in
theorem c_sym (i : Nat) {tb : Nat} {Ft : List Nat} {D : List Int} (hij : i ≠ j) (S : Sep w0 w L) (hT : L[i]? = some (oTab tb Ft D)) (hL : L[j]? = some (oRun ub rb F s B p out)) (hD : D.length ≤ 288) (hs : s.size ≤ 1048576) (hp : p ≤ 8 * s.size) :
    Calls Try.prog 81 #[.pointer (some ⟨ub, 0, none⟩), .pointer (some ⟨tb, 0, none⟩)] w (Pst w0 L j ub rb s B izN (symR s D p out)) := by
  have hO : RunO w ub rb F s B p out := S.get j hL
  obtain ⟨ao, cap, c0, _, _, _, _⟩ := hO.cells
  obtain ⟨v, hF, h4, h5, hn, S1⟩ := run_cut S hL
  have hjl : j < L.length := (List.getElem?_eq_some_iff.1 hL).1
  have hT1 : (oR rb s p false :: L.set j (oRest ub rb v B out))[i + 1]? = some (oTab tb Ft D) := by
    rw [List.getElem?_cons_succ, List.getElem?_set_ne (Ne.symm hij)]; exact hT
  have hrd := sTRead (i + 1) 0 (by omega) S1 hT1 rfl hD (by omega) hp
  obtain ⟨R, hR⟩ : ∃ R, readN D (bit s false) (8 * s.size) p = R := ⟨_, rfl⟩
  have hsy : symR s D p out = if R.2.1 = 0 then .ok R.1 R.2.2 out else .er R.2.1 out := by unfold symR; rw [hR]
  rw [hR] at hrd
  obtain ⟨r1, r2, r3⟩ := R
  simp only at hrd hsy
  have HRD := Lib.hid hrd
  have HF := Lib.hid (⟨hF, h4, h5, hn⟩ : _ ∧ _ ∧ _ ∧ _)
  have HSY := Lib.hid hsy
  clear hO S hL hT S1 hT1 hrd hR hsy hF h4 h5 hn
  go_enter Try.func81, Try.ntmps81
  go_wp2_with fail
  refine HRD.out.mono ?_
  rintro e w1 ⟨rfl, S⟩
  have HS := Lib.hid (run_glue hjl HF.out.2.1 HF.out.2.2.1 HF.out.2.2.2 S)
  clear S HRD c0
  by_cases h0 : r2 = 0
  · subst h0
    go_wp2_with fail
    refine (check_ok w1).mono ?_
    rintro e w2 ⟨rfl, rfl⟩
    go_wp2_with fail
    go_ret
    exact Pst.ok (a := r1) (by rw [HSY.out]; simp) (by unfold izN; rfl) _ HS.out
  · have hb : (r2 != 0) = true := bne_iff_ne.2 h0
    have H0 := Lib.hid h0
    clear h0
    go_wp2_with fail
    refine (check_er r2 hb w1).mono ?_
    rintro e w2 ⟨rfl, rfl⟩
    clear hb
    go_wp2_with fail
    exact ⟨rfl, Pst.er (by rw [HSY.out, if_neg H0.out]) rfl _ HS.out⟩
end
end Go.Proofs.Ytgjenpdppobpkaa.If
