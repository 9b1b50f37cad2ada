/-
  match: 'find' walked.
-/
import Derived.Test.YtngfhnpelchplaaMtE
import Derived.Test.YtngfhnpelchplaaPerm
namespace Go.Proofs.Ytngfhnpelchplaa.Mt
open Go.RowKit Go.Maps Go.WideElems Go.ChangeMaps Go.WideShapes Go.ChangeShapes
attribute [local go_sem] Oper.semAt_some

/-- the longest of the matches that are still to be looked at, and of the one found: the nearest of those -/
def findL (s : ByteArray) (p : Nat) : List Nat → Nat × Nat → Nat × Nat
  | [], st => st
  | f :: r, st => if 32768 < p - f ∨ st.1 = 258 then st else findL s p r (if st.1 < longN s f p then (longN s f p, p - f) else st)
def findN (s : ByteArray) (p : Nat) : Nat × Nat := if p + 3 ≤ s.size then findL s p (plc s p (byteF s p) (byteF s (p + 1)) (byteF s (p + 2))).reverse (0, 0) else (0, 0)
theorem plc_lt (s : ByteArray) (p : Nat) (a b c : UInt8) (j : Nat) (h : j ∈ plc s p a b c) : j < p := by
  unfold plc at h
  exact List.mem_range.1 (List.mem_filter.1 h).1
theorem longF_le (s : ByteArray) (a b : Nat) : ∀ k n, n ≤ 258 → longF s a b k n ≤ 258
  | 0, n, h => h
  | k + 1, n, h => by
    rw [longF]
    split
    · exact longF_le s a b k (n + 1) (by omega)
    · exact h
theorem longN_le (s : ByteArray) (a b : Nat) : longN s a b ≤ 258 := longF_le s a b 259 0 (by omega)
/-- what the map tells of a key -/
theorem oPl_look {w : World} {mb : Nat} {F : List Nat} {s : ByteArray} {i : Nat} (h : (oPl mb F s i).P w) (a b c : UInt8) :
    ∃ v, (∀ x : Ex w, (Instr.lookup 45 (.map (some mb)) (kv a b c) false).run Try.prog x.w = .ok v x.w) ∧ w.ownsRow 0 3 1 v (plc s i a b c).length ((plc s i a b c).map iv) ∧ ∀ g, v.ownBlock = some g → g ∈ F := by
  obtain ⟨h1, h2, D, val, ho, h4⟩ := h
  obtain ⟨k1, k2, k3, k4⟩ := h4 a b c
  refine ⟨val a b c, fun x => ?_, k2, k3⟩
  obtain ⟨v, hr, hv⟩ := map_look (map_ext ho x.ext (by simp)) (kv_key a b c)
  rw [k1] at hv
  injection hv with hv
  rw [hv]
  exact hr
/-! ### the walks -/
theorem results_ints {fn : Func} {p q : Tmp} (h : fn.results = #[.cell p 3, .cell q 3]) (tmps : Array Value) (w : World) (b1 b2 : Nat) (v1 v2 : Value) (h1 : tmps.getD p undef = .pointer (some ⟨b1, 0, none⟩)) (h2 : tmps.getD q undef = .pointer (some ⟨b2, 0, none⟩)) (c1 : w.cell? ⟨b1, 0, none⟩ = some v1) (c2 : w.cell? ⟨b2, 0, none⟩ = some v2) :
    (results fn tmps).run Try.prog w = .ok (.tuple #[v1, v2]) w := by
  have e1 : tmps[p]?.getD undef = .pointer (some ⟨b1, 0, none⟩) := by simpa using h1
  have e2 : tmps[q]?.getD undef = .pointer (some ⟨b2, 0, none⟩) := by simpa using h2
  have r1 : (loadVar 3 ⟨b1, 0, none⟩).run Try.prog w = .ok v1 w := by
    simp [loadVar, c1, go_sem]
  have r2 : (loadVar 3 ⟨b2, 0, none⟩).run Try.prog w = .ok v2 w := by
    simp [loadVar, c2, go_sem]
  simp [results, h, e1, e2, asAddr, r1, r2]
set_option maxRecDepth 100000 in
set_option maxHeartbeats 8000000 in
theorem find_no (fb mb p : Nat) (F : List Nat) (s : ByteArray) (w : World) (hP : (oFi fb mb F s p).P w) (hs : s.size ≤ 1048576) (hp : p ≤ s.size) (h3 : s.size < p + 3) :
    Calls Try.prog 26 #[.pointer (some ⟨fb, 0, none⟩), .int .i64 p] w fun e w' => e = .returned (.tuple #[.int .i64 0, .int .i64 0]) ∧ Ext [] w w' := by
  have HP := Lib.hid hP
  clear hP
  go_enter Try.func26, Try.ntmps26
  go_upto_region 1 with (fail)
  have S := Sep.start w
  have S := S.new ((Ext.refl _ _).alloc (.cells #[.pointer (some ⟨fb, 0, none⟩)] 44)) (Ob.one (w.heap.size) (.cells #[.pointer (some ⟨fb, 0, none⟩)] 44 (0, 0))) (heap_alloc_at _) (fun q hq => by rw [List.mem_singleton.1 hq]; simp)
  have S := S.new ((Ext.refl _ _).alloc (.cells #[.int .i64 (p : Int)] 3)) (Ob.one (w.heap.size + 1) (.cells #[.int .i64 (p : Int)] 3 (0, 0))) (by
    have h := heap_alloc_at (w := (w.alloc (.cells #[.pointer (some ⟨fb, 0, none⟩)] 44))) (.cells #[.int .i64 (p : Int)] 3)
    rw [show (w.alloc (.cells #[.pointer (some ⟨fb, 0, none⟩)] 44)).heap.size = w.heap.size + 1 from by simp] at h
    exact h) (fun q hq => by rw [List.mem_singleton.1 hq]; simp)
  have S := S.new ((Ext.refl _ _).alloc (.cells #[.int .i64 0] 3)) (Ob.one (w.heap.size + 1 + 1) (.cells #[.int .i64 0] 3 (0, 0))) (by
    have h := heap_alloc_at (w := ((w.alloc (.cells #[.pointer (some ⟨fb, 0, none⟩)] 44)).alloc (.cells #[.int .i64 (p : Int)] 3))) (.cells #[.int .i64 0] 3)
    rw [show ((w.alloc (.cells #[.pointer (some ⟨fb, 0, none⟩)] 44)).alloc (.cells #[.int .i64 (p : Int)] 3)).heap.size = w.heap.size + 1 + 1 from by simp] at h
    exact h) (fun q hq => by rw [List.mem_singleton.1 hq]; simp)
  have S := S.new ((Ext.refl _ _).alloc (.cells #[.int .i64 0] 3)) (Ob.one (w.heap.size + 1 + 1 + 1) (.cells #[.int .i64 0] 3 (0, 0))) (by
    have h := heap_alloc_at (w := (((w.alloc (.cells #[.pointer (some ⟨fb, 0, none⟩)] 44)).alloc (.cells #[.int .i64 (p : Int)] 3)).alloc (.cells #[.int .i64 0] 3))) (.cells #[.int .i64 0] 3)
    rw [show (((w.alloc (.cells #[.pointer (some ⟨fb, 0, none⟩)] 44)).alloc (.cells #[.int .i64 (p : Int)] 3)).alloc (.cells #[.int .i64 0] 3)).heap.size = w.heap.size + 1 + 1 + 1 from by simp] at h
    exact h) (fun q hq => by rw [List.mem_singleton.1 hq]; simp)
  obtain ⟨W0, hW0⟩ : ∃ W0, ((((w.alloc (.cells #[.pointer (some ⟨fb, 0, none⟩)] 44)).alloc (.cells #[.int .i64 (p : Int)] 3)).alloc (.cells #[.int .i64 0] 3)).alloc (.cells #[.int .i64 0] 3)) = W0 := ⟨_, rfl⟩
  obtain ⟨qb, hqb⟩ : ∃ qb, w.heap.size = qb := ⟨_, rfl⟩
  rw [hW0, hqb] at S
  rw [hW0, hqb]
  have HSp := Lib.hid S
  have q0 : W0.cell? ⟨qb, 0, none⟩ = some (.pointer (some ⟨fb, 0, none⟩)) := cellOf (S.get 3 rfl) 0
  have q1 : W0.cell? ⟨qb + 1, 0, none⟩ = some (.int .i64 (p : Int)) := cellOf (S.get 2 rfl) 0
  have hp0 := (oFi fb mb F s p).ok HP.out S.ext (by simp)
  clear S hW0 hqb
  have HA := Lib.hid (at_no fb mb p p s W0 hp0.1 hs hp h3)
  clear hp0
  go_wp2_with fail
  refine HA.out.mono ?_
  clear q0 q1
  rintro e w1 ⟨rfl, hx1⟩
  unfold kv
  have Sp := HSp.out.quiet hx1
  have HSp := Lib.hid Sp
  clear Sp hx1
  go_upto_region 2 with (fail)
  have Sp := HSp.out.quiet ((Ext.refl _ w1).alloc (.cells #[.int .u8 0, .int .u8 0, .int .u8 0] 55))
  obtain ⟨W2, hW2⟩ : ∃ W2, w1.alloc (.cells #[.int .u8 0, .int .u8 0, .int .u8 0] 55) = W2 := ⟨_, rfl⟩
  rw [hW2] at Sp
  rw [hW2]
  have r1 := Sp.get 1 rfl
  have r2 := Sp.get 0 rfl
  have c1 : W2.cell? ⟨qb + 1 + 1, 0, none⟩ = some (.int .i64 0) := cellOf r1 0
  have c2 : W2.cell? ⟨qb + 1 + 1 + 1, 0, none⟩ = some (.int .i64 0) := cellOf r2 0
  have f1 : W2.frozen? ⟨qb + 1 + 1, 0, none⟩ = false := freeOf r1 0
  have f2 : W2.frozen? ⟨qb + 1 + 1 + 1, 0, none⟩ = false := freeOf r2 0
  have Sp2 := Sp.upd 1 (Ob.one (qb + 1 + 1) (.cells #[.int .i64 0] 3 (0, 0))) rfl ((Ext.refl [qb + 1 + 1] W2).setCell ⟨qb + 1 + 1, 0, none⟩ (.int .i64 0) (.inl (by simp))) (Fr.refl _ _) (heap_setCell_same r1 _)
  have Sp3 := Sp2.upd 0 (Ob.one (qb + 1 + 1 + 1) (.cells #[.int .i64 0] 3 (0, 0))) rfl ((Ext.refl [qb + 1 + 1 + 1] _).setCell ⟨qb + 1 + 1 + 1, 0, none⟩ (.int .i64 0) (.inl (by simp))) (Fr.refl _ _) (heap_setCell_same (Sp2.get 0 rfl) _)
  have HS := Lib.hid Sp3
  clear Sp Sp2 Sp3 r1 r2 hW2
  go_wp2_with fail
  exact bodyPost_ret (results_ints rfl _ _ (qb + 1 + 1) (qb + 1 + 1 + 1) (.int .i64 0) (.int .i64 0) rfl rfl (cellOf (HS.out.get 1 rfl) 0) (cellOf (HS.out.get 0 rfl) 0)) rfl ⟨rfl, HS.out.ext⟩
section
variable {P : Program} {C : World → Prop} {Q : Exit → Go.Act → World → Prop}
/-- a region that only reads and calls quietly, in a round -/
theorem rnd_quiet {lr k id : Nat} {a : Go.Act} {w : World} {l : List Oper} (hm : P.follows .mixedOrders = true) (hB : Region.lexB .any l.toArray = true) (hd : l.all noDefer = true) (hL : ¬ LetsOut Q) (hC : C { w with drawn := w.drawn + 1 })
    (h : wpQuiet P l.toArray C (fun a' => ∀ w', C w' → Q .normal a' w') l a) : (Code.region id l.toArray true).wpIn (rnd lr) k P Q a w := by
  simp only [Region.lexB, Bool.and_eq_true] at hB
  refine rnd_any hm hd hL (wpAny_of_quiet (Q := fun a' => ∀ w', C w' → Q .normal a' w') (fun _ w' hw' h => h w' hw') _ _ _ _ hC ?_)
  have := wpAnyQ_lex (C := C) (md := .any) hB.1 l.toArray.toList 0 (Array.replicate l.toArray.size false) a (by simp) (by simpa using hB.2) (by simpa using h)
  simpa using this
/-- reads and quiet calls, then a forced tail, in a round -/
theorem rnd_quiet_tail {lr k id : Nat} {a : Go.Act} {w : World} {l : List Oper} (m : Nat) (hm : P.follows .mixedOrders = true) (hB : Region.lexTailB .any l.toArray m = true) (hd : l.all noDefer = true) (hL : ¬ LetsOut Q) (hC : C { w with drawn := w.drawn + 1 })
    (h : wpQuiet P l.toArray C (fun a' => ∀ w', C w' → wpList P l.toArray Q (l.drop m) a' w') (l.take m) a) : (Code.region id l.toArray true).wpIn (rnd lr) k P Q a w := by
  simp only [Region.lexTailB, Bool.and_eq_true, decide_eq_true_eq] at hB
  obtain ⟨⟨⟨⟨hsel, hn⟩, hs⟩, hc⟩, hlex⟩ := hB
  have hn' : m < l.length := by simpa using hn
  have htl : (l.take m).length = m := by simp; omega
  have hdl : (l.drop m).length = l.toArray.size - m := by simp
  have H := anyB_lex (md := .any) (g := l.toArray.size - m) hsel hs hc hn (l.take m) 0 _ a (fun j hj => by
    have hj' : j < m := by rw [htl] at hj; exact hj
    simp [hj']) (by simpa using htl) (headInv_start l m) (by rw [htl]; exact hlex) h
  refine rnd_any hm hd hL ?_
  have := wpAny_of_anyB (Q := Q) (g := l.toArray.size - m) (fun listed a' w' hw' hL => by
    have := wpAny_of_seq (md := .any) (Q' := Q) (l.drop m) m listed a' w' (fun j => by simp [List.getElem?_drop]) (by rw [hdl]; exact hL.1) (hL.2 w' hw')
    rwa [hdl] at this) _ _ _ _ hC H
  rw [htl, show m + (l.toArray.size - m) = l.toArray.size by omega] at this
  exact this
end
theorem range_pre {rows : Nat} {pre post : List Nat} {x : Nat} (h : List.range rows = pre ++ x :: post) : pre = List.range x ∧ pre.length = x ∧ x < rows := by
  have hl : pre.length < rows := by
    have := congrArg List.length h
    simp at this; omega
  have h1 := congrArg (fun l => l[pre.length]?) h
  simp only [List.getElem?_range hl, List.getElem?_append_right (Nat.le_refl _), Nat.sub_self, List.getElem?_cons_zero, Option.some.injEq] at h1
  have h2 := congrArg (List.take pre.length) h
  rw [List.take_range, Nat.min_eq_left (by omega), List.take_left] at h2
  subst h1
  exact ⟨h2.symm, rfl, hl⟩
def Ob.keep (W : World) (l : List Nat) : Ob where
  F := l
  P := fun w => W.heap.size ≤ w.heap.size ∧ ∀ k ∈ l, k < w.heap.size ∧ w.heap[k]? = W.heap[k]?
  ok := fun h hx hS => ⟨Nat.le_trans h.1 hx.size, fun k hk => ⟨Nat.lt_of_lt_of_le (h.2 k hk).1 hx.size, (hx.block k (h.2 k hk).1 (hS k hk)).trans (h.2 k hk).2⟩⟩
  lt := fun h k hk => (h.2 k hk).1
theorem keep_start {w W : World} {L : List Ob} {l : List Nat} (Sp : Sep w W L) (i : Nat) (hL : L[i]? = some (Ob.room l)) : Sep w W (L.set i (Ob.keep W l)) :=
  Sp.upd i (Ob.keep W l) hL (Ext.refl _ _) (Fr.refl _ _) ⟨Nat.le_refl _, fun k hk => ⟨Sp.get i hL k hk, rfl⟩⟩
theorem keep_end {w W W' : World} {L : List Ob} {l : List Nat} (Sp : Sep w W' L) (i : Nat) (hL : L[i]? = some (Ob.keep W l)) : KeepsT l W W' ∧ Sep w W' (L.set i (Ob.room l)) :=
  ⟨⟨(Sp.get i hL).1, fun k hk => ((Sp.get i hL).2 k hk).2⟩, Sp.upd i (Ob.room l) hL (Ext.refl _ _) (Fr.refl _ _) (fun k hk => ((Sp.get i hL).2 k hk).1)⟩

/-- a row of places, taken apart -/
theorem row_parts {w : World} {v : Value} {l : List Nat} (d : Nat) (hd : d < w.heap.size) (h : w.ownsRow 0 3 1 v l.length (l.map iv)) :
    ∃ q cap g cs, v = .slice q l.length cap ∧ g < w.heap.size ∧ (1 ≤ l.length → q = some ⟨g, 0, none⟩) ∧ (1 ≤ l.length → w.heap[g]? = some (.cells cs 3 (0, 0))) ∧ ∀ j, j < l.length → cs[j]? = some (iv (l.getD j 0)) := by
  rcases h.2 with ⟨rfl, hn⟩ | ⟨g, cap, cs, rfl, _, hg, hnc, hcap, hsz, ht⟩
  · exact ⟨none, 0, d, #[], by rw [hn], hd, fun h => by omega, fun h => by omega, fun j hj => by omega⟩
  · refine ⟨_, cap, g, cs, rfl, lt_of_block hg, fun _ => rfl, fun _ => hg, fun j hj => ?_⟩
    rw [Nat.mul_one] at ht
    have e : cs[j]? = (cs.toList.take l.length)[j]? := by rw [List.getElem?_take, if_pos hj, Array.getElem?_toList]
    rw [e, ht, List.getElem?_map, List.getD_eq_getElem?_getD, List.getElem?_eq_getElem hj]
    rfl
theorem oPl_mb {w : World} {mb : Nat} {F : List Nat} {s : ByteArray} {i : Nat} (h : (oPl mb F s i).P w) : mb < w.heap.size := (oPl mb F s i).lt h mb (by simp [oPl])
set_option maxRecDepth 100000 in
set_option maxHeartbeats 8000000 in
theorem find_yes (fb mb p : Nat) (F : List Nat) (s : ByteArray) (w : World) (hP : (oFi fb mb F s p).P w) (hs : s.size ≤ 1048576) (h3 : p + 3 ≤ s.size) :
    Calls Try.prog 26 #[.pointer (some ⟨fb, 0, none⟩), .int .i64 p] w fun e w' => e = .returned (.tuple #[.int .i64 ((findN s p).1 : Nat), .int .i64 ((findN s p).2 : Nat)]) ∧ Ext [] w w' := by
  obtain ⟨R, hR⟩ : ∃ R, findN s p = R := ⟨_, rfl⟩
  rw [hR]
  unfold findN at hR
  rw [if_pos h3] at hR
  have HR := Lib.hid hR
  have HP := Lib.hid hP
  clear hP hR
  refine (callsIn_wide (n := 0)).1 (callsIn_of_wp_marks Try.func26 rfl trivial ((wpIn_wide (n := 0)).2 ?_))
  simp only [Try.ntmps26, List.size_toArray, List.length_cons, List.length_nil, Nat.reduceAdd, Nat.reduceSub, Array.replicate_succ, Array.replicate_zero, List.push_toArray, List.append_toArray, List.nil_append, List.cons_append]
  go_upto_region 1 with (fail)
  have S := Sep.start w
  have S := S.new ((Ext.refl _ _).alloc (.cells #[.pointer (some ⟨fb, 0, none⟩)] 44)) (Ob.one (w.heap.size) (.cells #[.pointer (some ⟨fb, 0, none⟩)] 44 (0, 0))) (heap_alloc_at _) (fun q hq => by rw [List.mem_singleton.1 hq]; simp)
  have S := S.new ((Ext.refl _ _).alloc (.cells #[.int .i64 (p : Int)] 3)) (Ob.one (w.heap.size + 1) (.cells #[.int .i64 (p : Int)] 3 (0, 0))) (by
    have h := heap_alloc_at (w := (w.alloc (.cells #[.pointer (some ⟨fb, 0, none⟩)] 44))) (.cells #[.int .i64 (p : Int)] 3)
    rw [show (w.alloc (.cells #[.pointer (some ⟨fb, 0, none⟩)] 44)).heap.size = w.heap.size + 1 from by simp] at h
    exact h) (fun q hq => by rw [List.mem_singleton.1 hq]; simp)
  have S := S.new ((Ext.refl _ _).alloc (.cells #[.int .i64 0] 3)) (Ob.one (w.heap.size + 1 + 1) (.cells #[.int .i64 0] 3 (0, 0))) (by
    have h := heap_alloc_at (w := ((w.alloc (.cells #[.pointer (some ⟨fb, 0, none⟩)] 44)).alloc (.cells #[.int .i64 (p : Int)] 3))) (.cells #[.int .i64 0] 3)
    rw [show ((w.alloc (.cells #[.pointer (some ⟨fb, 0, none⟩)] 44)).alloc (.cells #[.int .i64 (p : Int)] 3)).heap.size = w.heap.size + 1 + 1 from by simp] at h
    exact h) (fun q hq => by rw [List.mem_singleton.1 hq]; simp)
  have S := S.new ((Ext.refl _ _).alloc (.cells #[.int .i64 0] 3)) (Ob.one (w.heap.size + 1 + 1 + 1) (.cells #[.int .i64 0] 3 (0, 0))) (by
    have h := heap_alloc_at (w := (((w.alloc (.cells #[.pointer (some ⟨fb, 0, none⟩)] 44)).alloc (.cells #[.int .i64 (p : Int)] 3)).alloc (.cells #[.int .i64 0] 3))) (.cells #[.int .i64 0] 3)
    rw [show (((w.alloc (.cells #[.pointer (some ⟨fb, 0, none⟩)] 44)).alloc (.cells #[.int .i64 (p : Int)] 3)).alloc (.cells #[.int .i64 0] 3)).heap.size = w.heap.size + 1 + 1 + 1 from by simp] at h
    exact h) (fun q hq => by rw [List.mem_singleton.1 hq]; simp)
  obtain ⟨W0, hW0⟩ : ∃ W0, ((((w.alloc (.cells #[.pointer (some ⟨fb, 0, none⟩)] 44)).alloc (.cells #[.int .i64 (p : Int)] 3)).alloc (.cells #[.int .i64 0] 3)).alloc (.cells #[.int .i64 0] 3)) = W0 := ⟨_, rfl⟩
  obtain ⟨qb, hqb⟩ : ∃ qb, w.heap.size = qb := ⟨_, rfl⟩
  rw [hW0, hqb] at S
  rw [hW0, hqb]
  have HSp := Lib.hid S
  have q0 : W0.cell? ⟨qb, 0, none⟩ = some (.pointer (some ⟨fb, 0, none⟩)) := cellOf (S.get 3 rfl) 0
  have q1 : W0.cell? ⟨qb + 1, 0, none⟩ = some (.int .i64 (p : Int)) := cellOf (S.get 2 rfl) 0
  have hp0 := (oFi fb mb F s p).ok HP.out S.ext (by simp)
  clear S hW0 hqb
  have HA := Lib.hid (at_yes fb mb p p s W0 hp0.1 hs h3)
  clear hp0
  go_wp2_with fail
  refine HA.out.mono ?_
  clear q0 q1
  rintro e w1 ⟨rfl, hx1⟩
  unfold keyV kv
  have Sp := HSp.out.quiet hx1
  have hR := HR.out
  obtain ⟨a, ha⟩ : ∃ a, byteF s p = a := ⟨_, rfl⟩
  obtain ⟨b, hb⟩ : ∃ b, byteF s (p + 1) = b := ⟨_, rfl⟩
  obtain ⟨c, hc⟩ : ∃ c, byteF s (p + 2) = c := ⟨_, rfl⟩
  rw [ha, hb, hc] at hR ⊢
  have HSp := Lib.hid Sp
  have HR := Lib.hid hR
  clear Sp hx1 ha hb hc hR
  go_upto_region 4 with (fail)
  have Sp := HSp.out.new ((Ext.refl _ w1).alloc (.cells #[.int .u8 a.toNat, .int .u8 b.toNat, .int .u8 c.toNat] 55)) (Ob.one w1.heap.size (.cells #[u8v a, u8v b, u8v c] 55 (0, 0))) (heap_alloc_at _) (fun q hq => by rw [List.mem_singleton.1 hq]; exact Nat.le_refl _)
  obtain ⟨W2, hW2⟩ : ∃ W2, w1.alloc (.cells #[.int .u8 a.toNat, .int .u8 b.toNat, .int .u8 c.toNat] 55) = W2 := ⟨_, rfl⟩
  obtain ⟨kb, hkb⟩ : ∃ kb, w1.heap.size = kb := ⟨_, rfl⟩
  rw [hW2, hkb] at Sp
  rw [hW2, hkb]
  have hp2 := (oFi fb mb F s p).ok HP.out Sp.ext (by simp)
  have hlt9 := fun j => plc_lt s p a b c j
  have hpl9 := plc_len s p a b c
  obtain ⟨v, hlook0, hrow, hvF⟩ := oPl_look HP.out.2.1 a b c
  have hlook := fun x : Ex W2 => hlook0 (Ex.mk _ (Sp.ext.trans x.ext))
  obtain ⟨l, hl⟩ : ∃ l, plc s p a b c = l := ⟨_, rfl⟩
  have hR := HR.out
  rw [hl] at hrow hR hlt9 hpl9
  obtain ⟨q, cap, g, cs, rfl, hg1, hq1, hq2, hq3⟩ := row_parts mb (oPl_mb HP.out.2.1) hrow
  unfold kv at hlook
  simp only [show ∀ x : Ex W2, (Ex.mk _ (Sp.ext.trans x.ext) : Ex w).w = x.w from fun _ => rfl] at hlook
  have g0 : ∀ x : Ex W2, x.w.cell? ⟨qb, 0, none⟩ = some (.pointer (some ⟨fb, 0, none⟩)) := fun x => cellOf (x.heap (Sp.get 4 rfl)) 0
  have g1 : ∀ x : Ex W2, x.w.cell? ⟨fb, 1, none⟩ = some (.map (some mb)) := fun x => cellOf (x.heap hp2.1) 1
  have k0 : ∀ x : Ex W2, x.w.cell? ⟨kb, 0, none⟩ = some (u8v a) := fun x => cellOf (x.heap (Sp.get 0 rfl)) 0
  have k1 : ∀ x : Ex W2, x.w.cell? ⟨kb, 1, none⟩ = some (u8v b) := fun x => cellOf (x.heap (Sp.get 0 rfl)) 1
  have k2 : ∀ x : Ex W2, x.w.cell? ⟨kb, 2, none⟩ = some (u8v c) := fun x => cellOf (x.heap (Sp.get 0 rfl)) 2
  have HSp := Lib.hid Sp
  have HQ := Lib.hid (⟨hg1, hq1, hq2, hq3⟩ : _ ∧ _ ∧ _ ∧ _)
  have HR := Lib.hid hR
  have HL := Lib.hid (⟨hlt9, hpl9⟩ : _ ∧ _)
  have HF := Lib.hid hp2
  clear Sp hW2 hkb hg1 hq1 hq2 hq3 hR hlt9 hpl9 hp2 hrow hvF hl hlook0
  refine wp_region_quiet_tail (C := fun w' => ∃ x : Ex W2, w' = x.w) 6 (by kernel_rfl) (by kernel_rfl) ⟨Ex.mk _ ((Ext.refl [] W2).drew), rfl⟩ ?_
  simp only [List.take_succ_cons, List.take_zero, List.drop_succ_cons, List.drop_zero]
  repeat (go_big_quiet_step (fail))
  refine wpQuiet_nil ?_
  clear g0 g1 k0 k1 k2 hlook
  rintro _ ⟨x6, rfl⟩
  obtain ⟨w6, hw6⟩ : ∃ w6, x6.w = w6 := ⟨_, rfl⟩
  have hx6 := x6.ext
  rw [hw6] at hx6
  rw [hw6]
  clear hw6
  go_wp2_with fail
  refine (back_walk q l.length cap w6).mono ?_
  rintro e w7 ⟨rfl, rfl⟩
  go_wp2_with fail
  have S6 := HSp.out.quiet hx6
  obtain ⟨A, hA⟩ : ∃ A, w6.alloc (bxN (.slice q l.length cap)) = A := ⟨_, rfl⟩
  have hxA : Ext [] w6 A := by rw [← hA]; exact (Ext.refl _ _).alloc _
  have hAs : A.heap.size = w6.heap.size + 1 := by rw [← hA]; simp
  have hbA : A.heap[w6.heap.size]? = some (bxN (.slice q l.length cap)) := by rw [← hA]; exact heap_alloc_at _
  obtain ⟨b1, hb1⟩ : ∃ b1, w6.heap.size = b1 := ⟨_, rfl⟩
  rw [hb1] at hbA hAs
  rw [hA, hb1]
  obtain ⟨hg1, hq1, hq2, hq3⟩ := HQ.out
  have hxw : Ext [] w A := S6.ext.trans hxA
  have hgA : 1 ≤ l.length → A.heap[g]? = some (.cells cs 3 (0, 0)) := fun h => hxw.keep (hq2 h) (by simp)
  have hltA := lt_of_block hbA
  have hgw : g < A.heap.size := Nat.lt_of_lt_of_le hg1 hxw.size
  have HSA := Lib.hid (⟨S6, hxA, hb1, hAs⟩ : _ ∧ _ ∧ _ ∧ _)
  clear S6 hA hb1 hx6 hxA hxw hAs
  refine wp_range (gf := 35) (lb := #[.pointer (some ⟨b1, 0, none⟩)]) rfl (Go.Proofs.enters_of Try.func35 (by kernel_rfl) rfl) (back_iter l.length cap b1 g q (fun j => l.getD j 0) cs (by have := HL.out.2; omega) hq1 hq3) (fun _ => rfl)
    A.heap.size (A.heap.size + 1) rfl rfl (by simp) (by simp; omega) (fun W hx => ⟨hx.keep hbA (by simp), fun h => hx.keep (hgA h) (by simp)⟩)
    (fun pre W => ∃ st : Nat × Nat, findL s p (l.reverse.drop pre.length) st = R ∧ st.1 ≤ 258 ∧ Sep w W [Ob.room [A.heap.size, A.heap.size + 1, b1], Ob.one kb (.cells #[u8v a, u8v b, u8v c] 55 (0, 0)), Ob.one (qb + 1 + 1 + 1) (.cells #[.int .i64 (st.2 : Nat)] 3 (0, 0)), Ob.one (qb + 1 + 1) (.cells #[.int .i64 (st.1 : Nat)] 3 (0, 0)), Ob.one (qb + 1) (.cells #[.int .i64 (p : Int)] 3 (0, 0)), Ob.one qb (.cells #[.pointer (some ⟨fb, 0, none⟩)] 44 (0, 0))]) (fun cd _ W => cd = .exit 0 ∧ Sep w W [Ob.room [A.heap.size, A.heap.size + 1, b1], Ob.one kb (.cells #[u8v a, u8v b, u8v c] 55 (0, 0)), Ob.one (qb + 1 + 1 + 1) (.cells #[.int .i64 (R.2 : Nat)] 3 (0, 0)), Ob.one (qb + 1 + 1) (.cells #[.int .i64 (R.1 : Nat)] 3 (0, 0)), Ob.one (qb + 1) (.cells #[.int .i64 (p : Int)] 3 (0, 0)), Ob.one qb (.cells #[.pointer (some ⟨fb, 0, none⟩)] 44 (0, 0))])
    (fun q A' B' h hx => by
      obtain ⟨st, h1, h2, Sp⟩ := h
      exact ⟨st, h1, h2, Sp.upd 0 (Ob.room [A.heap.size, A.heap.size + 1, b1]) rfl (hx.mono (fun i _ hi => by simp at hi; show i ∈ [A.heap.size, A.heap.size + 1, b1]; simp; omega)) (Fr.refl _ _) (fun k hk => Nat.lt_of_lt_of_le (Sp.get 0 rfl k hk) hx.size)⟩)
    (fun cd q A' B' h hx => ⟨h.1, h.2.upd 0 (Ob.room [A.heap.size, A.heap.size + 1, b1]) rfl (hx.mono (fun i _ hi => by simp at hi; show i ∈ [A.heap.size, A.heap.size + 1, b1]; simp; omega)) (Fr.refl _ _) (fun k hk => Nat.lt_of_lt_of_le (h.2.get 0 rfl k hk) hx.size)⟩)
    (fun W hx hw => ⟨(0, 0), HR.out, by omega, by
      obtain ⟨S6, hxA, hb1, hAs⟩ := HSA.out
      exact S6.new (hxA.trans hx) (Ob.room [A.heap.size, A.heap.size + 1, b1]) (fun k hk => by simp at hk; omega) (fun k hk => by simp [Ob.room] at hk; omega)⟩)
    (fun x => { tmps := #[.pointer (some ⟨fb, 0, none⟩), .int .i64 p, .pointer (some ⟨qb, 0, none⟩), .pointer (some ⟨qb + 1, 0, none⟩), .pointer (some ⟨qb + 1 + 1, 0, none⟩), .pointer (some ⟨qb + 1 + 1 + 1, 0, none⟩), .pointer (some ⟨kb, 0, none⟩), .bool true, undef, iv (l.getD (l.length - 1 - x) 0), undef, .tuple #[.agg #[u8v a, u8v b, u8v c], .bool true], .pointer (some ⟨fb, 0, none⟩), .int .i64 p, .tuple #[.agg #[u8v a, u8v b, u8v c], .bool true], .agg #[u8v a, u8v b, u8v c], .bool true, .bool true, .bool false, .pointer (some ⟨fb, 0, none⟩), .pointer (some ⟨fb, 0, none⟩), .pointer (some ⟨fb, 1, none⟩), .map (some mb), .agg #[u8v a, u8v b, u8v c], .slice q l.length cap, .func (.func 35) #[] #[.pointer (some ⟨b1, 0, none⟩)], .int .i64 ((l.length : Int) - 1 - (x : Int)), iv (l.getD (l.length - 1 - x) 0), undef, undef, undef, undef, undef, undef, undef, undef, undef, undef, undef, undef, undef, undef, undef, undef, undef, undef, undef, undef, undef], defers := [] }) ?assign ?body ?done ?stop
  case assign =>
    intro x W K hK
    unfold encB
    gi_wp2_with fail
    exact hK
  case stop =>
    rintro cd pre x post W hxs ⟨rfl, Sp⟩ hD
    clear hxs
    have r1 := Sp.get 3 rfl
    have r2 := Sp.get 2 rfl
    have c1 : W.cell? ⟨qb + 1 + 1, 0, none⟩ = some (.int .i64 (R.1 : Nat)) := cellOf r1 0
    have c2 : W.cell? ⟨qb + 1 + 1 + 1, 0, none⟩ = some (.int .i64 (R.2 : Nat)) := cellOf r2 0
    have f1 : W.frozen? ⟨qb + 1 + 1, 0, none⟩ = false := freeOf r1 0
    have f2 : W.frozen? ⟨qb + 1 + 1 + 1, 0, none⟩ = false := freeOf r2 0
    have HS := Lib.hid Sp
    have HDD := Lib.hid hD
    clear Sp hD r1 r2 hbA hgA hltA hgw hq1 hq2 hq3 hg1
    go_wp2_with fail
    go_region
    go_wp2_with fail
    obtain ⟨Wf, hWf⟩ : ∃ Wf, ((W.setCell ⟨qb + 1 + 1, 0, none⟩ (.int .i64 (R.1 : Nat))).setCell ⟨qb + 1 + 1 + 1, 0, none⟩ (.int .i64 (R.2 : Nat))).drew = Wf := ⟨_, rfl⟩
    have hxf : Ext [qb + 1 + 1, qb + 1 + 1 + 1] W Wf := by rw [← hWf]; exact (((Ext.refl _ W).setCell _ _ (.inl (by simp))).setCell _ _ (.inl (by simp))).drew
    have k1 : Wf.heap[qb + 1 + 1]? = some (.cells #[.int .i64 (R.1 : Nat)] 3 (0, 0)) := by rw [← hWf]; exact (heap_setCell_ne _ (by simp)).trans (heap_setCell_same (HS.out.get 3 rfl) _)
    have k2 : Wf.heap[qb + 1 + 1 + 1]? = some (.cells #[.int .i64 (R.2 : Nat)] 3 (0, 0)) := by rw [← hWf]; exact heap_setCell_same ((heap_setCell_ne _ (by simp)).trans (HS.out.get 2 rfl)) _
    rw [hWf]
    have hq3 : qb + 1 + 1 + 1 < A.heap.size := by
      obtain ⟨S6, hxA, hb1, hAs⟩ := HSA.out
      have := lt_of_block (S6.get 1 rfl)
      omega
    have hD' := hxf.keep HDD.out (by simp; omega)
    refine ⟨by simp, .inl ⟨_, _, rfl, run_takeDeferred hD', ?_⟩⟩
    have hxp := Ext.putObj Wf A.heap.size (.deferred none)
    refine ⟨_, results_ints rfl _ _ (qb + 1 + 1) (qb + 1 + 1 + 1) _ _ rfl rfl (cellOf (hxp.keep k1 (by simp; omega)) 0) (cellOf (hxp.keep k2 (by simp; omega)) 0), rfl, ?_⟩
    have Sa := HS.out.upd 3 (Ob.one (qb + 1 + 1) (.cells #[.int .i64 (R.1 : Nat)] 3 (0, 0))) rfl ((Ext.refl [qb + 1 + 1] W).setCell ⟨qb + 1 + 1, 0, none⟩ (.int .i64 (R.1 : Nat)) (.inl (by simp))) (Fr.refl _ _) (heap_setCell_same (HS.out.get 3 rfl) _)
    have Sb := (Sa.upd 2 (Ob.one (qb + 1 + 1 + 1) (.cells #[.int .i64 (R.2 : Nat)] 3 (0, 0))) rfl ((Ext.refl [qb + 1 + 1 + 1] _).setCell ⟨qb + 1 + 1 + 1, 0, none⟩ (.int .i64 (R.2 : Nat)) (.inl (by simp))) (Fr.refl _ _) (heap_setCell_same (Sa.get 2 rfl) _)).quiet ((Ext.refl _ _).drew)
    rw [hWf] at Sb
    refine Sb.ext.trans' hxp (fun k hk hkF => ?_)
    obtain ⟨S6, hxA, hb1, hAs⟩ := HSA.out
    have := S6.ext.size
    simp at hkF
    omega
  case body =>
    rintro pre x post W hxs ⟨st, hst, hst8, Sp⟩
    obtain ⟨hpre, hlen, hj⟩ := range_pre hxs
    obtain ⟨fr, hfr⟩ : ∃ fr, l.getD (l.length - 1 - x) 0 = fr := ⟨_, rfl⟩
    have hcons : l.reverse.drop x = fr :: l.reverse.drop (x + 1) := by
      rw [List.drop_eq_getElem_cons (by rw [List.length_reverse]; exact hj)]
      congr 1
      rw [List.getElem_reverse, ← hfr, List.getD_eq_getElem?_getD, List.getElem?_eq_getElem (by omega)]
      rfl
    have hfp : fr < p := HL.out.1 fr (by
      rw [← hfr, List.getD_eq_getElem?_getD, List.getElem?_eq_getElem (by omega)]
      exact List.getElem_mem _)
    rw [hlen, hcons, findL] at hst
    rw [hfr]
    have Sp := keep_start Sp 0 rfl
    have hend : ∀ (W' : World) (st' : Nat × Nat), Sep w W' [Ob.keep W [A.heap.size, A.heap.size + 1, b1], Ob.one kb (.cells #[u8v a, u8v b, u8v c] 55 (0, 0)), Ob.one (qb + 1 + 1 + 1) (.cells #[.int .i64 (st'.2 : Nat)] 3 (0, 0)), Ob.one (qb + 1 + 1) (.cells #[.int .i64 (st'.1 : Nat)] 3 (0, 0)), Ob.one (qb + 1) (.cells #[.int .i64 (p : Int)] 3 (0, 0)), Ob.one qb (.cells #[.pointer (some ⟨fb, 0, none⟩)] 44 (0, 0))] → KeepsT [A.heap.size, A.heap.size + 1, b1, g] W W' ∧ Sep w W' [Ob.room [A.heap.size, A.heap.size + 1, b1], Ob.one kb (.cells #[u8v a, u8v b, u8v c] 55 (0, 0)), Ob.one (qb + 1 + 1 + 1) (.cells #[.int .i64 (st'.2 : Nat)] 3 (0, 0)), Ob.one (qb + 1 + 1) (.cells #[.int .i64 (st'.1 : Nat)] 3 (0, 0)), Ob.one (qb + 1) (.cells #[.int .i64 (p : Int)] 3 (0, 0)), Ob.one qb (.cells #[.pointer (some ⟨fb, 0, none⟩)] 44 (0, 0))] := fun W' st' S => by
      have HE := keep_end S 0 rfl
      refine ⟨⟨HE.1.size, fun k hk => ?_⟩, HE.2⟩
      by_cases hkg : k = g
      · subst hkg
        exact (S.ext.block k hg1 (by simp)).trans (Sp.ext.block k hg1 (by simp)).symm
      · exact HE.1.same k (by simp at hk ⊢; omega)
    have q0 : W.cell? ⟨qb, 0, none⟩ = some (.pointer (some ⟨fb, 0, none⟩)) := cellOf (Sp.get 5 rfl) 0
    have q1 : W.cell? ⟨qb + 1, 0, none⟩ = some (.int .i64 (p : Int)) := cellOf (Sp.get 4 rfl) 0
    have c1 : W.cell? ⟨qb + 1 + 1, 0, none⟩ = some (.int .i64 (st.1 : Nat)) := cellOf (Sp.get 3 rfl) 0
    have HEND := Lib.hid hend
    have HS := Lib.hid Sp
    have HSA2 := HSA
    clear hend Sp hcons hxs hpre hbA hgA hltA hgw hq1 hq2 hq3 hg1 hfr
    by_cases hbr : 32768 < p - fr ∨ st.1 = 258
    · rw [if_pos hbr] at hst
      obtain rfl : R = st := hst.symm
      by_cases hb2 : 32768 < p - fr
      · have d1 : decide ((32768 : Int) < (p : Int) - (fr : Int)) = true := decide_eq_true (by omega)
        gi_wp2_with fail
        exact ⟨⟨(HEND.out _ _ HS.out).1.size, fun k hk => (HEND.out _ _ HS.out).1.same k (by simp at hk ⊢; omega)⟩, rfl, (HEND.out _ _ HS.out).2⟩
      · have d1 : decide ((32768 : Int) < (p : Int) - (fr : Int)) = false := decide_eq_false (by omega)
        have d2 : (((R.1 : Nat) : Int) == 258) = true := by rw [beq_iff_eq]; omega
        gi_wp2_with fail
        exact ⟨⟨(HEND.out _ _ HS.out).1.size, fun k hk => (HEND.out _ _ HS.out).1.same k (by simp at hk ⊢; omega)⟩, rfl, (HEND.out _ _ HS.out).2⟩
    · rw [if_neg hbr] at hst
      have d1 : decide ((32768 : Int) < (p : Int) - (fr : Int)) = false := decide_eq_false (by omega)
      have d2 : (((st.1 : Nat) : Int) == 258) = false := beq_eq_false_iff_ne.2 (by omega)
      have hf := HS.out.ext.keep HP.out.1 (by simp)
      have hlw := long_walk fb mb fr p p s W hf hs (by omega) hfp
      have hl8 := longN_le s fr p
      obtain ⟨m, hm⟩ : ∃ m, longN s fr p = m := ⟨_, rfl⟩
      rw [hm] at hlw hst hl8
      have HLW := Lib.hid hlw
      have HST := Lib.hid hst
      clear hlw hst hm hf
      gi_wp2_with (refine wpListIn_hid (fun ⟨_, _, h⟩ => h) rfl ?_)
      refine Lib.hid ?_
      go_wp2_with fail
      gi_wp2_with (refine wpListIn_hid (fun ⟨_, _, h⟩ => h) rfl ?_)
      refine Lib.hid ?_
      go_wp2_with fail
      refine HLW.out.mono ?_
      rintro e w8 ⟨rfl, hx8⟩
      have Sp := HS.out.quiet hx8
      have hx9 : Ext [] W w8 := hx8
      have q1 : w8.cell? ⟨qb + 1, 0, none⟩ = some (.int .i64 (p : Int)) := cellOf (Sp.get 4 rfl) 0
      have c1 : w8.cell? ⟨qb + 1 + 1, 0, none⟩ = some (.int .i64 (st.1 : Nat)) := cellOf (Sp.get 3 rfl) 0
      have c2 : w8.cell? ⟨qb + 1 + 1 + 1, 0, none⟩ = some (.int .i64 (st.2 : Nat)) := cellOf (Sp.get 2 rfl) 0
      have f1 : w8.frozen? ⟨qb + 1 + 1, 0, none⟩ = false := freeOf (Sp.get 3 rfl) 0
      have f2 : w8.frozen? ⟨qb + 1 + 1 + 1, 0, none⟩ = false := freeOf (Sp.get 2 rfl) 0
      have HS8 := Lib.hid Sp
      clear Sp hx8 hx9 q0
      by_cases hm : st.1 < m
      · have d3 : decide (st.1 < m) = true := decide_eq_true hm
        obtain ⟨dd, hdd⟩ : ∃ dd, p - fr = dd := ⟨_, rfl⟩
        have hdi : (p : Int) - (fr : Int) = (dd : Int) := by omega
        have h := HST.out
        rw [if_pos hm, hdd] at h
        have HST := Lib.hid h
        clear h hdd d1
        go_wp2_with fail
        gi_wp2_with fail
        have Sp := HS8.out.quiet ((Ext.refl _ w8).drew)
        have hq : w8.drew.heap[qb + 1]? = some (.cells #[.int .i64 (p : Int)] 3 (0, 0)) := Sp.get 4 rfl
        have Sa := Sp.upd 3 (Ob.one (qb + 1 + 1) (.cells #[.int .i64 (m : Nat)] 3 (0, 0))) rfl ((Ext.refl [qb + 1 + 1] w8.drew).setCell ⟨qb + 1 + 1, 0, none⟩ (.int .i64 (m : Nat)) (.inl (by simp))) (Fr.refl _ _) (heap_setCell_same (Sp.get 3 rfl) _)
        have hq' : (w8.drew.setCell ⟨qb + 1 + 1, 0, none⟩ (.int .i64 (m : Nat))).heap[qb + 1]? = some (.cells #[.int .i64 (p : Int)] 3 (0, 0)) := Sa.get 4 rfl
        have Sb := Sa.upd 2 (Ob.one (qb + 1 + 1 + 1) (.cells #[.int .i64 (dd : Nat)] 3 (0, 0))) rfl ((Ext.refl [qb + 1 + 1 + 1] _).setCell ⟨qb + 1 + 1 + 1, 0, none⟩ (.int .i64 (dd : Nat)) (.inl (by simp))) (Fr.refl _ _) (heap_setCell_same (Sa.get 2 rfl) _)
        have HSB := Lib.hid Sb
        clear Sp Sa Sb q1
        refine rnd_perm (C := fun w' => ∃ x : TwoW (qb + 1) (.cells #[.int .i64 (p : Int)] 3 (0, 0)) (qb + 1) (.cells #[.int .i64 (p : Int)] 3 (0, 0)), w' = x.w) [0, 1, 2, 3] 5 (by kernel_rfl) (by kernel_rfl) (by kernel_rfl) (fun ⟨_, _, h⟩ => h) ⟨TwoW.mk w8.drew hq hq, rfl⟩ ?_
        haveI : Nonempty (TwoW (qb + 1) (.cells #[.int .i64 (p : Int)] 3 (0, 0)) (qb + 1) (.cells #[.int .i64 (p : Int)] 3 (0, 0))) := ⟨TwoW.mk w8.drew hq hq⟩
        have e0 : ∀ x : TwoW (qb + 1) (.cells #[.int .i64 (p : Int)] 3 (0, 0)) (qb + 1) (.cells #[.int .i64 (p : Int)] 3 (0, 0)), x.w.cell? ⟨qb + 1, 0, none⟩ = some (.int .i64 (p : Int)) := fun x => cellOf x.h1 0
        simp only [pick, List.getElem?_toArray, List.getElem?_cons_zero, List.getElem?_cons_succ, List.drop_succ_cons, List.drop_zero]
        repeat (go_big_quiet_step (fail))
        refine wpQuiet_nil ?_
        clear e0
        refine anyC_one (f := 0) (i := 4) (by kernel_rfl) (by decide) rfl rfl (fun K hK => ?_)
        go_wp2_with fail
        refine hK _ (w8.drew.setCell ⟨qb + 1 + 1, 0, none⟩ (.int .i64 (m : Nat))) ⟨TwoW.mk _ hq' hq', rfl⟩ ?_
        clear hK K
        refine anyC_end (by kernel_rfl) ?_
        go_wp2_with fail
        refine NoPanic.normal ?_
        gi_wp2_with fail
        have HE := HEND.out _ (m, dd) HSB.out
        exact ⟨HE.1, (m, dd), by rw [List.length_append, hlen]; exact HST.out, hl8, HE.2⟩
      · have d3 : decide (st.1 < m) = false := decide_eq_false hm
        go_wp2_with fail
        gi_wp2_with fail
        have HE := HEND.out _ st HS8.out
        have h := HST.out
        rw [if_neg hm] at h
        exact ⟨HE.1, st, by rw [List.length_append, hlen]; exact h, hst8, HE.2⟩
  case done =>
    rintro W ⟨st, hst, hst8, Sp⟩ hD
    obtain rfl : R = st := by
      rw [List.length_range, List.drop_of_length_le (by rw [List.length_reverse]; exact Nat.le_refl _)] at hst
      exact hst.symm
    clear hst hst8
    have r1 := Sp.get 3 rfl
    have r2 := Sp.get 2 rfl
    have c1 : W.cell? ⟨qb + 1 + 1, 0, none⟩ = some (.int .i64 (R.1 : Nat)) := cellOf r1 0
    have c2 : W.cell? ⟨qb + 1 + 1 + 1, 0, none⟩ = some (.int .i64 (R.2 : Nat)) := cellOf r2 0
    have f1 : W.frozen? ⟨qb + 1 + 1, 0, none⟩ = false := freeOf r1 0
    have f2 : W.frozen? ⟨qb + 1 + 1 + 1, 0, none⟩ = false := freeOf r2 0
    have HS := Lib.hid Sp
    have HDD := Lib.hid hD
    clear Sp hD r1 r2 hbA hgA hltA hgw hq1 hq2 hq3 hg1
    go_wp2_with fail
    go_region
    go_wp2_with fail
    obtain ⟨Wf, hWf⟩ : ∃ Wf, ((W.setCell ⟨qb + 1 + 1, 0, none⟩ (.int .i64 (R.1 : Nat))).setCell ⟨qb + 1 + 1 + 1, 0, none⟩ (.int .i64 (R.2 : Nat))).drew = Wf := ⟨_, rfl⟩
    have hxf : Ext [qb + 1 + 1, qb + 1 + 1 + 1] W Wf := by rw [← hWf]; exact (((Ext.refl _ W).setCell _ _ (.inl (by simp))).setCell _ _ (.inl (by simp))).drew
    have k1 : Wf.heap[qb + 1 + 1]? = some (.cells #[.int .i64 (R.1 : Nat)] 3 (0, 0)) := by rw [← hWf]; exact (heap_setCell_ne _ (by simp)).trans (heap_setCell_same (HS.out.get 3 rfl) _)
    have k2 : Wf.heap[qb + 1 + 1 + 1]? = some (.cells #[.int .i64 (R.2 : Nat)] 3 (0, 0)) := by rw [← hWf]; exact heap_setCell_same ((heap_setCell_ne _ (by simp)).trans (HS.out.get 2 rfl)) _
    rw [hWf]
    have hq3 : qb + 1 + 1 + 1 < A.heap.size := by
      obtain ⟨S6, hxA, hb1, hAs⟩ := HSA.out
      have := lt_of_block (S6.get 1 rfl)
      omega
    have hD' := hxf.keep HDD.out (by simp; omega)
    refine ⟨by simp, .inl ⟨_, _, rfl, run_takeDeferred hD', ?_⟩⟩
    have hxp := Ext.putObj Wf A.heap.size (.deferred none)
    refine ⟨_, results_ints rfl _ _ (qb + 1 + 1) (qb + 1 + 1 + 1) _ _ rfl rfl (cellOf (hxp.keep k1 (by simp; omega)) 0) (cellOf (hxp.keep k2 (by simp; omega)) 0), rfl, ?_⟩
    have Sa := HS.out.upd 3 (Ob.one (qb + 1 + 1) (.cells #[.int .i64 (R.1 : Nat)] 3 (0, 0))) rfl ((Ext.refl [qb + 1 + 1] W).setCell ⟨qb + 1 + 1, 0, none⟩ (.int .i64 (R.1 : Nat)) (.inl (by simp))) (Fr.refl _ _) (heap_setCell_same (HS.out.get 3 rfl) _)
    have Sb := (Sa.upd 2 (Ob.one (qb + 1 + 1 + 1) (.cells #[.int .i64 (R.2 : Nat)] 3 (0, 0))) rfl ((Ext.refl [qb + 1 + 1 + 1] _).setCell ⟨qb + 1 + 1 + 1, 0, none⟩ (.int .i64 (R.2 : Nat)) (.inl (by simp))) (Fr.refl _ _) (heap_setCell_same (Sa.get 2 rfl) _)).quiet ((Ext.refl _ _).drew)
    rw [hWf] at Sb
    refine Sb.ext.trans' hxp (fun k hk hkF => ?_)
    obtain ⟨S6, hxA, hb1, hAs⟩ := HSA.out
    have := S6.ext.size
    simp at hkF
    omega
end Go.Proofs.Ytngfhnpelchplaa.Mt
