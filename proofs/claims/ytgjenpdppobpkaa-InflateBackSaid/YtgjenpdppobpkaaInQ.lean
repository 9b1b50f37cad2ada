/-
  inflate: Run walked.
-/
import Derived.Test.YtgjenpdppobpkaaInP
import Derived.Defers
import Derived.Recover
import Derived.Laws.Pointers
namespace Go.Proofs.Ytgjenpdppobpkaa.If
open Go.RowKit Bt Hu

theorem assert_up (er : Int) (w : World) : (Instr.typeAssert (.iface 62 (.agg #[.int .i64 er])) 20 62 false).run Try.prog w = .ok (.agg #[.int .i64 er]) w := by kernel_rfl
theorem field_up (er : Int) (w : World) : (Instr.field 62 (.agg #[.int .i64 er]) 0).run Try.prog w = .ok (.int .i64 er) w := by kernel_rfl
set_option maxRecDepth 100000 in
set_option maxHeartbeats 2000000 in
theorem catch_pan (cb ob nb eb ub : Nat) (er : Int) (v : Value) (t : ByteArray) (older : List PanicEntry) (w : World) (x0 : ByteArray) (x1 x2 : Int)
    (c0 : w.cell? ⟨cb, 0, none⟩ = some (.pointer (some ⟨ub, 0, none⟩))) (c1 : w.cell? ⟨ub, 1, none⟩ = some v) (ht : (convert 26 9 v).run Try.prog w = .ok (.string t) w)
    (o0 : w.cell? ⟨ob, 0, none⟩ = some (.string x0)) (of : w.frozen? ⟨ob, 0, none⟩ = false) (n0 : w.cell? ⟨nb, 0, none⟩ = some (.int .i64 x1)) (nf : w.frozen? ⟨nb, 0, none⟩ = false) (e0 : w.cell? ⟨eb, 0, none⟩ = some (.int .i64 x2)) (ef : w.frozen? ⟨eb, 0, none⟩ = false)
    (hne : ob ≠ nb ∧ ob ≠ eb ∧ nb ≠ eb) :
    CallsD Try.prog 31 #[.pointer (some ⟨cb, 0, none⟩), .pointer (some ⟨ob, 0, none⟩), .pointer (some ⟨nb, 0, none⟩), .pointer (some ⟨eb, 0, none⟩)] (.panicking (giveV er :: older)) w fun e u' w' =>
      e = .returned (.tuple #[]) ∧ u' = .panicking ({ v := (giveV er).v, recovered := true } :: older) ∧ w'.cell? ⟨ob, 0, none⟩ = some (.string t) ∧ w'.cell? ⟨nb, 0, none⟩ = some (.int .i64 0) ∧ w'.cell? ⟨eb, 0, none⟩ = some (.int .i64 er) ∧ Ext [ob, nb, eb] w w' := by
  refine callsD_of_wpS Try.func31 rfl fun c₀ cs hu => ?_
  simp only [Try.ntmps31]
  rw [show (#[.pointer (some ⟨cb, 0, none⟩), .pointer (some ⟨ob, 0, none⟩), .pointer (some ⟨nb, 0, none⟩), .pointer (some ⟨eb, 0, none⟩)] ++ Array.replicate (16 - (#[Value.pointer (some ⟨cb, 0, none⟩), .pointer (some ⟨ob, 0, none⟩), .pointer (some ⟨nb, 0, none⟩), .pointer (some ⟨eb, 0, none⟩)] : Array Value).size) undef : Array Value) = #[.pointer (some ⟨cb, 0, none⟩), .pointer (some ⟨ob, 0, none⟩), .pointer (some ⟨nb, 0, none⟩), .pointer (some ⟨eb, 0, none⟩), undef, undef, undef, undef, undef, undef, undef, undef, undef, undef, undef, undef] from rfl]
  apply wpS_seq
  refine wpS_of_wp ?_
  go_wp2_with fail
  show Code.wpS _ _ _ _ _ _
  apply wpS_seq
  apply wpS_region
  simp [wpOpsS, go_sem, recoverD, hu, giveV, Exit.thenS]
  apply wpS_seq
  refine wpS_of_wp ?_
  go_wp2_with fail
  show Code.wpS _ _ _ _ _ _
  refine wpS_cond (t := true) (by rfl) ?_
  simp only [if_true]
  refine wpS_of_wp ?_
  obtain ⟨W, hW⟩ : ∃ W, w.setCell ⟨ob, 0, none⟩ (.string t) = W := ⟨_, rfl⟩
  have n1 : W.cell? ⟨nb, 0, none⟩ = some (.int .i64 x1) := by rw [← hW]; simp [go_sem, n0]
  have nf1 : W.frozen? ⟨nb, 0, none⟩ = false := by rw [← hW]; simp [go_sem, nf]
  have e1 : W.cell? ⟨eb, 0, none⟩ = some (.int .i64 x2) := by rw [← hW]; simp [go_sem, e0]
  have ef1 : W.frozen? ⟨eb, 0, none⟩ = false := by rw [← hW]; simp [go_sem, ef]
  have o1 : W.cell? ⟨ob, 0, none⟩ = some (.string t) := by rw [← hW]; simp [go_sem, o0]
  have hx1 : Ext [ob, nb, eb] w W := by rw [← hW]; exact (Ext.refl _ w).setCell _ _ (.inl (by simp))
  rw [hW]
  clear hW c0 c1 ht o0 of n0 nf e0 ef
  have hta := assert_up er
  have htf := field_up er
  go_region
  refine ⟨rfl, _, rfl, .tuple #[], by simp [results, Try.results31], rfl, rfl, ?_, ?_, ?_, ?_⟩
  · simp [go_sem, o1]
  · simp [go_sem, n1]
  · simp [go_sem, e1]
  · exact ((hx1.setCell _ _ (.inl (by simp))).setCell _ _ (.inl (by simp))).drew
set_option maxRecDepth 100000 in
set_option maxHeartbeats 2000000 in
theorem catch_not (cb ob nb eb ub : Nat) (v : Value) (t : ByteArray) (w : World) (x0 : ByteArray)
    (c0 : w.cell? ⟨cb, 0, none⟩ = some (.pointer (some ⟨ub, 0, none⟩))) (c1 : w.cell? ⟨ub, 1, none⟩ = some v) (ht : (convert 26 9 v).run Try.prog w = .ok (.string t) w)
    (o0 : w.cell? ⟨ob, 0, none⟩ = some (.string x0)) (of : w.frozen? ⟨ob, 0, none⟩ = false) :
    CallsD Try.prog 31 #[.pointer (some ⟨cb, 0, none⟩), .pointer (some ⟨ob, 0, none⟩), .pointer (some ⟨nb, 0, none⟩), .pointer (some ⟨eb, 0, none⟩)] .returning w fun e u' w' =>
      e = .returned (.tuple #[]) ∧ u' = .returning ∧ w' = w.setCell ⟨ob, 0, none⟩ (.string t) := by
  refine callsD_of_wpS Try.func31 rfl fun c₀ cs hu => ?_
  simp only [Try.ntmps31]
  rw [show (#[.pointer (some ⟨cb, 0, none⟩), .pointer (some ⟨ob, 0, none⟩), .pointer (some ⟨nb, 0, none⟩), .pointer (some ⟨eb, 0, none⟩)] ++ Array.replicate (16 - (#[Value.pointer (some ⟨cb, 0, none⟩), .pointer (some ⟨ob, 0, none⟩), .pointer (some ⟨nb, 0, none⟩), .pointer (some ⟨eb, 0, none⟩)] : Array Value).size) undef : Array Value) = #[.pointer (some ⟨cb, 0, none⟩), .pointer (some ⟨ob, 0, none⟩), .pointer (some ⟨nb, 0, none⟩), .pointer (some ⟨eb, 0, none⟩), undef, undef, undef, undef, undef, undef, undef, undef, undef, undef, undef, undef] from rfl]
  apply wpS_seq
  refine wpS_of_wp ?_
  go_wp2_with fail
  show Code.wpS _ _ _ _ _ _
  apply wpS_seq
  apply wpS_region
  simp [wpOpsS, go_sem, recoverD, hu, Exit.thenS]
  apply wpS_seq
  refine wpS_of_wp ?_
  go_wp2_with fail
  show Code.wpS _ _ _ _ _ _
  refine wpS_cond (t := false) (by rfl) ?_
  simp only [Bool.false_eq_true, if_false]
  refine wpS_of_wp (wp_skip ?_)
  obtain ⟨_, _, _, _, mode, _, _⟩ := c₀
  simp only at hu
  subst hu
  exact ⟨rfl, .returning, rfl, .tuple #[], by simp [results, Try.results31], rfl, rfl, rfl⟩
def runV (s : ByteArray) (B : Nat) : Value :=
  match runR s B with
  | .ok _ p out => .tuple #[.string (txt out), .int .i64 (((p + 7) / 8 : Nat) : Int), .int .i64 0]
  | .er er out => .tuple #[.string (txt out), .int .i64 0, .int .i64 er]
theorem allF_le {s : ByteArray} {B : Nat} : ∀ (g p : Nat) (out : List Nat) {a : Unit} {q : Nat} {o : List Nat}, allF s B g p out = .ok a q o → q ≤ 8 * s.size
  | 0, p, out, a, q, o, h => by rw [allF] at h; cases h
  | g + 1, p, out, a, q, o, h => by
    rw [allF] at h
    cases h1 : getR s 1 p out with
    | er e o1 => rw [h1, Rs.bind_er] at h; cases h
    | ok n p1 o1 =>
      rw [h1, Rs.bind_ok] at h
      cases h2 : getR s 2 p1 o1 with
      | er e o1 => rw [h2, Rs.bind_er] at h; cases h
      | ok k p2 o2 =>
        rw [h2, Rs.bind_ok] at h
        cases h3 : blockR s B k p2 o2 with
        | er e o1 => rw [h3, Rs.bind_er] at h; cases h
        | ok u p3 o3 =>
          rw [h3, Rs.bind_ok] at h
          split at h
          · exact allF_le g _ _ h
          · injection h with _ h4 _
            rw [← h4]
            exact (blockR_ok h3).2
theorem runR_le {s : ByteArray} {B : Nat} {a : Unit} {q : Nat} {o : List Nat} (h : runR s B = .ok a q o) : q ≤ 8 * s.size := allF_le _ _ _ h
theorem alloc_new9 {w : World} {o : Obj} {k : Nat} (hk : k = w.heap.size) : (w.alloc o).heap[k]? = some o := by subst hk; exact heap_alloc_at _
theorem run_res (w : World) (tmps : Array Value) (ob nb eb : Nat) (x : ByteArray) (y z : Int) (h4 : tmps.getD 4 undef = .pointer (some ⟨ob, 0, none⟩)) (h5 : tmps.getD 5 undef = .pointer (some ⟨nb, 0, none⟩)) (h6 : tmps.getD 6 undef = .pointer (some ⟨eb, 0, none⟩))
    (c4 : w.cell? ⟨ob, 0, none⟩ = some (.string x)) (c5 : w.cell? ⟨nb, 0, none⟩ = some (.int .i64 y)) (c6 : w.cell? ⟨eb, 0, none⟩ = some (.int .i64 z)) :
    (results Try.f13 tmps).run Try.prog w = .ok (.tuple #[.string x, .int .i64 y, .int .i64 z]) w := by
  simp only [Array.getD_eq_getD_getElem?] at h4 h5 h6
  simp [results, Try.results13, h4, h5, h6, go_sem, c4, c5, c6, asAddr]
set_option maxRecDepth 100000 in
set_option maxHeartbeats 2000000 in
theorem run_neg (s : ByteArray) (B : Int) (w : World) (hB : B < 0) :
    Calls Try.prog 13 #[.string s, .int .i64 B] w fun e w' => e = .returned (.tuple #[.string ⟨#[]⟩, .int .i64 0, .int .i64 2]) ∧ Ext [] w w' := by
  have hmf : ∀ (fn : Fn) (first cap : Array Value) (w : World), (Instr.makeFunc fn first cap).run Try.prog w = .ok (.func fn first cap) w := fun _ _ _ _ => rfl
  go_enter_defers Try.func13, Try.ntmps13
  go_wp2_with fail
  refine ⟨_, run_res _ _ w.heap.size (w.heap.size + 1) (w.heap.size + 1 + 1) ⟨#[]⟩ 0 2 rfl rfl rfl ?_ ?_ ?_, rfl, (((Ext.refl [] w).alloc _).alloc _).alloc _⟩
  · simp [go_sem]
  · simp [go_sem]
  · simp [go_sem]
set_option maxRecDepth 100000 in
set_option maxHeartbeats 2000000 in
theorem run_walk (s : ByteArray) (B : Nat) (w : World) (hs : s.size ≤ 1048576) (hB : B ≤ 1099511627776) :
    Calls Try.prog 13 #[.string s, .int .i64 (B : Int)] w fun e w' => e = .returned (runV s B) ∧ Ext [] w w' := by
  have hmf : ∀ (fn : Fn) (first cap : Array Value) (w : World), (Instr.makeFunc fn first cap).run Try.prog w = .ok (.func fn first cap) w := fun _ _ _ _ => rfl
  have S3 := (((Sep.start w).new ((Ext.refl _ w).alloc (.cells #[.string ⟨#[]⟩] 9)) (Ob.one w.heap.size (.cells #[.string ⟨#[]⟩] 9 (0, 0))) (heap_alloc_at _) (fun k hk => by rw [List.mem_singleton.1 hk]; exact Nat.le_refl _)).new ((Ext.refl _ _).alloc (.cells #[.int .i64 0] 3)) (Ob.one (w.heap.size + 1) (.cells #[.int .i64 0] 3 (0, 0))) (alloc_new9 (by simp)) (fun k hk => by rw [List.mem_singleton.1 hk]; simp)).new ((Ext.refl _ _).alloc (.cells #[.int .i64 0] 32)) (Ob.one (w.heap.size + 1 + 1) (.cells #[.int .i64 0] 32 (0, 0))) (alloc_new9 (by simp)) (fun k hk => by rw [List.mem_singleton.1 hk]; simp)
  have HS := Lib.hid S3
  clear S3
  obtain ⟨V, hV⟩ : ∃ V, runV s B = V := ⟨_, rfl⟩
  rw [hV]
  unfold runV at hV
  have HV := Lib.hid hV
  clear hV
  go_enter_defers Try.func13, Try.ntmps13
  go_wp2_with fail
  refine (sRnew s false HS.out).mono ?_
  rintro e w4 ⟨rb, rfl, S⟩
  clear HS
  have HS := Lib.hid S
  clear S
  have hrb : w4.heap[rb]? = some (rdr s 0 false) := HS.out.get 0 rfl
  have hne : w4.heap.size ≠ rb := fun h => by have := lt_of_block hrb; omega
  have S5 := HS.out.new ((Ext.refl _ w4).alloc (runC rb (.slice none 0 0) B)) (oRest w4.heap.size rb (.slice none 0 0) B []) ⟨heap_alloc_at _, World.ownsRow_nil _ _ _ _⟩ (fun k hk => by
    rcases List.mem_cons.1 hk with rfl | hk
    · exact Nat.le_refl _
    · cases hk)
  have hr5 : (w4.alloc (runC rb (.slice none 0 0) B)).heap[rb]? = some (rdr s 0 false) := S5.get 1 rfl
  have S5 := Sep.glue S5 (j := 0) rfl (oRun w4.heap.size rb [w4.heap.size, rb] s B 0 []) (fun k hk => by
    rcases List.mem_cons.1 hk with rfl | hk
    · exact .inl (List.mem_cons_self ..)
    · exact .inr hk) ⟨⟨.slice none 0 0, heap_alloc_at _, World.ownsRow_nil _ _ _ _, rfl, by simp [Value.ownBlock], by simp [Value.ownBlock]⟩, hr5, hne⟩
  have S6 := S5.new ((Ext.refl _ _).alloc (.cells #[.pointer (some ⟨w4.heap.size, 0, none⟩)] 56)) (Ob.one (w4.heap.size + 1) (.cells #[.pointer (some ⟨w4.heap.size, 0, none⟩)] 56 (0, 0))) (alloc_new9 (by simp)) (fun k hk => by rw [List.mem_singleton.1 hk]; simp)
  have hall := a_all (L := [Ob.one (w4.heap.size + 1) (.cells #[.pointer (some ⟨w4.heap.size, 0, none⟩)] 56 (0, 0)), oRun w4.heap.size rb [w4.heap.size, rb] s B 0 [], Ob.one (w.heap.size + 1 + 1) (.cells #[.int .i64 0] 32 (0, 0)), Ob.one (w.heap.size + 1) (.cells #[.int .i64 0] 3 (0, 0)), Ob.one w.heap.size (.cells #[.string ⟨#[]⟩] 9 (0, 0))]) (j := 1) (by simp) S6 hs (Nat.zero_le _) hB
  have hall : Calls Try.prog 32 #[.pointer (some ⟨w4.heap.size, 0, none⟩)] _ (Pst _ _ _ _ _ s B unit9 (runR s B)) := hall
  have HALL := Lib.hid hall
  clear hrb hne S5 hr5 S6 hall HS
  go_wp2_with fail
  refine HALL.out.mono ?_
  obtain ⟨ub, hub⟩ : ∃ ub, w4.heap.size = ub := ⟨_, rfl⟩
  obtain ⟨ob, hob⟩ : ∃ ob, w.heap.size = ob := ⟨_, rfl⟩
  rw [hub, hob]
  clear HALL hub
  have HOB := Lib.hid hob
  clear hob
  intro e w6 h
  have hV := HV.out
  clear HV
  cases hR : runR s B with
  | er er out =>
    rw [hR] at h hV
    simp only at hV
    have HV := Lib.hid hV
    clear hV hR
    obtain ⟨rfl, F', p', S⟩ := h
    have S : Sep w w6 [Ob.one (ub + 1) (.cells #[.pointer (some ⟨ub, 0, none⟩)] 56 (0, 0)), oRun ub rb F' s B p' out, Ob.one (ob + 1 + 1) (.cells #[.int .i64 0] 32 (0, 0)), Ob.one (ob + 1) (.cells #[.int .i64 0] 3 (0, 0)), Ob.one ob (.cells #[.string ⟨#[]⟩] 9 (0, 0))] := S
    have hc := S.get 0 rfl
    have hr : RunO w6 ub rb F' s B p' out := S.get 1 rfl
    have he := S.get 2 rfl
    have hn := S.get 3 rfl
    have ho := S.get 4 rfl
    obtain ⟨ao, cap, _, r1, _, _, hown⟩ := hr.cells
    have hcp := catch_pan (ub + 1) ob (ob + 1) (ob + 1 + 1) ub er _ (txt out) [] w6 ⟨#[]⟩ 0 0 (cellOf hc 0) r1 (run_row_text hown) (cellOf ho 0) (freeOf ho 0) (cellOf hn 0) (freeOf hn 0) (cellOf he 0) (freeOf he 0) (by omega)
    have HX := Lib.hid S.ext
    have HCP := Lib.hid hcp
    clear S hc hr he hn ho r1 hown hcp
    go_wp2_with fail
    refine leaves_cons (f := 31) (args := #[.pointer (some ⟨ub + 1, 0, none⟩), .pointer (some ⟨ob, 0, none⟩), .pointer (some ⟨ob + 1, 0, none⟩), .pointer (some ⟨ob + 1 + 1, 0, none⟩)]) (by simp) (by simp [go_sem]) ?_
    refine HCP.out.mono ?_
    rintro e u' w7 ⟨rfl, rfl, h1, h2, h3, hx⟩
    refine ⟨_, run_res w7 _ ob (ob + 1) (ob + 1 + 1) (txt out) 0 er rfl rfl rfl h1 h2 h3, by rw [HV.out], ?_⟩
    refine HX.out.trans' hx (fun i hi hm => ?_)
    have := HOB.out
    simp at hm
    omega
  | ok u p out =>
    rw [hR] at h hV
    simp only at hV
    have HV := Lib.hid hV
    clear hV
    obtain ⟨rfl, F', S⟩ := h
    have S : Sep w w6 [Ob.one (ub + 1) (.cells #[.pointer (some ⟨ub, 0, none⟩)] 56 (0, 0)), oRun ub rb F' s B p out, Ob.one (ob + 1 + 1) (.cells #[.int .i64 0] 32 (0, 0)), Ob.one (ob + 1) (.cells #[.int .i64 0] 3 (0, 0)), Ob.one ob (.cells #[.string ⟨#[]⟩] 9 (0, 0))] := S
    have c0 : w6.cell? ⟨ub + 1, 0, none⟩ = some (.pointer (some ⟨ub, 0, none⟩)) := cellOf (S.get 0 rfl) 0
    have hr : RunO w6 ub rb F' s B p out := S.get 1 rfl
    obtain ⟨ao, cap, r0, _, _, _, _⟩ := hr.cells
    have hrd := hr.rd
    have HS := Lib.hid S
    clear S hr
    have hp8 : p ≤ 8 * s.size := runR_le hR
    clear hR
    go_wp2_with fail
    refine (at_any rb s p false w6 hrd).mono ?_
    rintro e w7 ⟨rfl, hx⟩
    have S := HS.out.quiet hx
    clear hx HS c0 r0 hrd
    have e0 : w7.cell? ⟨ob + 1 + 1, 0, none⟩ = some (.int .i64 0) := cellOf (S.get 2 rfl) 0
    have ef : w7.frozen? ⟨ob + 1 + 1, 0, none⟩ = false := freeOf (S.get 2 rfl) 0
    have n0 : w7.cell? ⟨ob + 1, 0, none⟩ = some (.int .i64 0) := cellOf (S.get 3 rfl) 0
    have nf : w7.frozen? ⟨ob + 1, 0, none⟩ = false := freeOf (S.get 3 rfl) 0
    have o0 : w7.cell? ⟨ob, 0, none⟩ = some (.string ⟨#[]⟩) := cellOf (S.get 4 rfl) 0
    have of : w7.frozen? ⟨ob, 0, none⟩ = false := freeOf (S.get 4 rfl) 0
    have HS := Lib.hid S
    clear S
    go_wp2_with fail
    have hq : (((p + 7) / 8 : Nat) : Int) = ((p : Int) + 7) / 8 := by omega
    have HQ := Lib.hid hq
    clear hq
    obtain ⟨q, hq⟩ : ∃ q, ((p : Int) + 7) / 8 = q := ⟨_, rfl⟩
    rw [hq] at HQ ⊢
    clear hq e0 ef n0 nf o0 of
    have S1 := HS.out.upd 4 (Ob.one ob (.cells #[.string ⟨#[]⟩] 9 (0, 0))) rfl ((Ext.refl _ w7).setCell ⟨ob, 0, none⟩ (.string ⟨#[]⟩) (.inl (by simp [Ob.one]))) (Fr.refl _ _) (heap_setCell_same (HS.out.get 4 rfl : w7.heap[ob]? = some (.cells #[.string ⟨#[]⟩] 9 (0, 0))) _)
    have S2 := S1.upd 3 (Ob.one (ob + 1) (.cells #[.int .i64 q] 3 (0, 0))) rfl ((Ext.refl _ _).setCell ⟨ob + 1, 0, none⟩ (.int .i64 q) (.inl (by simp [Ob.one]))) (Fr.refl _ _) (heap_setCell_same (S1.get 3 rfl : (w7.setCell ⟨ob, 0, none⟩ (.string ⟨#[]⟩)).heap[ob + 1]? = some (.cells #[.int .i64 0] 3 (0, 0))) _)
    have S3 := S2.upd 2 (Ob.one (ob + 1 + 1) (.cells #[.int .i64 0] 32 (0, 0))) rfl ((Ext.refl _ _).setCell ⟨ob + 1 + 1, 0, none⟩ (.int .i64 0) (.inl (by simp [Ob.one]))) (Fr.refl _ _) (heap_setCell_same (S2.get 2 rfl : ((w7.setCell ⟨ob, 0, none⟩ (.string ⟨#[]⟩)).setCell ⟨ob + 1, 0, none⟩ (.int .i64 q)).heap[ob + 1 + 1]? = some (.cells #[.int .i64 0] 32 (0, 0))) _)
    obtain ⟨W8, hW8⟩ : ∃ W8, ((w7.setCell ⟨ob, 0, none⟩ (.string ⟨#[]⟩)).setCell ⟨ob + 1, 0, none⟩ (.int .i64 q)).setCell ⟨ob + 1 + 1, 0, none⟩ (.int .i64 0) = W8 := ⟨_, rfl⟩
    rw [hW8] at S3 ⊢
    clear hW8 S1 S2 HS
    have hr : RunO W8 ub rb F' s B p out := S3.get 1 rfl
    obtain ⟨ao, cap, _, r1, _, _, hown⟩ := hr.cells
    have ho : W8.heap[ob]? = some (.cells #[.string ⟨#[]⟩] 9 (0, 0)) := S3.get 4 rfl
    have hn : W8.cell? ⟨ob + 1, 0, none⟩ = some (.int .i64 q) := cellOf (S3.get 3 rfl) 0
    have he : W8.cell? ⟨ob + 1 + 1, 0, none⟩ = some (.int .i64 0) := cellOf (S3.get 2 rfl) 0
    have o0 := cellOf ho 0
    refine leaves_cons (f := 31) (args := #[.pointer (some ⟨ub + 1, 0, none⟩), .pointer (some ⟨ob, 0, none⟩), .pointer (some ⟨ob + 1, 0, none⟩), .pointer (some ⟨ob + 1 + 1, 0, none⟩)]) (by simp) (by simp [go_sem]) ?_
    refine (catch_not (ub + 1) ob (ob + 1) (ob + 1 + 1) ub _ (txt out) W8 ⟨#[]⟩ (cellOf (S3.get 0 rfl) 0) r1 (run_row_text hown) o0 (freeOf ho 0)).mono ?_
    rintro e u' w9 ⟨rfl, rfl, rfl⟩
    refine ⟨_, run_res _ _ ob (ob + 1) (ob + 1 + 1) (txt out) q 0 rfl rfl rfl (by simp [go_sem, o0]) (by simp [go_sem, hn]) (by simp [go_sem, he]), by rw [← HV.out, HQ.out], ?_⟩
    refine S3.ext.trans' ((Ext.refl [ob] W8).setCell ⟨ob, 0, none⟩ (.string (txt out)) (.inl (by simp))) (fun i hi hm => ?_)
    have := HOB.out
    simp at hm
    omega
end Go.Proofs.Ytgjenpdppobpkaa.If
