/-
  match.All walked.
-/
import Derived.Test.YtngfhnpelchplaaMtG
import Derived.Test.YtngfhnpelchplaaMtI
import Derived.Test.YtngfhnpelchplaaRow
namespace Go.Proofs.Ytngfhnpelchplaa.Mt
open Go.RowKit Go.Maps

abbrev Pc := UInt8 × Int × Int
def pcC (l : List Pc) : List Value := l.flatMap fun p => [u8v p.1, .int .i64 p.2.1, .int .i64 p.2.2]
theorem pcC_len (l : List Pc) : (pcC l).length = l.length * 3 := by
  induction l with
  | nil => rfl
  | cons a l ih => rw [pcC, List.flatMap_cons, List.length_append, ← pcC, ih]; simp; omega
theorem pcC_append (l m : List Pc) : pcC (l ++ m) = pcC l ++ pcC m := by unfold pcC; rw [List.flatMap_append]
theorem pcC_one (p : Pc) : pcC [p] = [u8v p.1, .int .i64 p.2.1, .int .i64 p.2.2] := by simp [pcC]
/-- the pieces of a text from a place on (k: rounds at most) -/
def allF (s : ByteArray) : Nat → Nat → List Pc
  | 0, _ => []
  | k + 1, p => if p < s.size then
      if 0 < (findN s p).1 then (0, ((findN s p).1 : Nat), ((findN s p).2 : Nat)) :: allF s k (p + (findN s p).1) else (byteF s p, 0, 0) :: allF s k (p + 1)
    else []
def allN (s : ByteArray) : List Pc := allF s (s.size + 1) 0
theorem longF_fit (s : ByteArray) (a b : Nat) : ∀ k n, b + n ≤ s.size → b + longF s a b k n ≤ s.size
  | 0, n, h => h
  | k + 1, n, h => by
    rw [longF]
    split
    · rename_i h1
      exact longF_fit s a b k (n + 1) (by omega)
    · exact h
theorem findL_fit (s : ByteArray) (p : Nat) (hp : p ≤ s.size) : ∀ (l : List Nat) (st : Nat × Nat), p + st.1 ≤ s.size → p + (findL s p l st).1 ≤ s.size
  | [], st, h => h
  | f :: r, st, h => by
    rw [findL]
    split
    · exact h
    · refine findL_fit s p hp r _ ?_
      split
      · exact longF_fit s f p 259 0 (by omega)
      · exact h
theorem findN_fit (s : ByteArray) (p : Nat) (hp : p ≤ s.size) : p + (findN s p).1 ≤ s.size := by
  unfold findN
  split
  · exact findL_fit s p hp _ _ (by simpa using hp)
  · simpa using hp
theorem infoPiece : (Try.prog.info? 34).map (fun i => (i.zero, i.size, i.bytes)) = some (some (.agg #[.int .u8 0, .int .i64 0, .int .i64 0]), 3, 24) := by kernel_rfl
theorem cells_pc (w : World) (x : UInt8) (l b : Int) (t : TypeId) (f : Nat × Nat := (0, 0)) : ∀ j u, (pcC [(x, l, b)])[j]? = some u → (w.alloc (.cells #[u8v x, .int .i64 l, .int .i64 b] t f)).cell? ((⟨w.heap.size, 0, none⟩ : Addr).add j) = some u := by
  intro j u h
  have e : (⟨w.heap.size, 0, none⟩ : Addr).add j = ⟨w.heap.size, j, none⟩ := by unfold Addr.add; split <;> simp_all
  rw [e, cellOf (heap_alloc_at _)]
  rw [pcC_one] at h
  rw [← h]
  simp
set_option maxRecDepth 100000 in
set_option maxHeartbeats 8000000 in
theorem All_walk (s : ByteArray) (w : World) (hs : s.size ≤ 1048576) :
    Calls Try.prog 10 #[.string s] w fun e w' => ∃ v, e = .returned v ∧ Ext [] w w' ∧ (oSl 34 3 v (allN s).length (pcC (allN s))).P w' ∧ ∀ k ∈ v.ownBlock.toList, w.heap.size ≤ k := by
  obtain ⟨i0, hif, hz0, hz1, hz2⟩ := info_parts infoPiece
  have hmm := @run_makeMap Try.prog
  obtain ⟨R, hR⟩ : ∃ R, allN s = R := ⟨_, rfl⟩
  rw [hR]
  unfold allN at hR
  have HR := Lib.hid hR
  clear hR
  go_enter Try.func10, Try.ntmps10
  go_wp2_with fail
  have hx2 : Ext [] w ((w.alloc (.map #[] 0)).alloc (finder s w.heap.size 0)) := ((Ext.refl _ w).alloc _).alloc _
  have hfb := heap_alloc_at (w := w.alloc (.map #[] 0)) (finder s w.heap.size 0)
  rw [show (w.alloc (.map #[] 0)).heap.size = w.heap.size + 1 from by simp] at hfb
  have hP0 : (oFi (w.heap.size + 1) w.heap.size [] s 0).P ((w.alloc (.map #[] 0)).alloc (finder s w.heap.size 0)) := ⟨hfb, (oPl w.heap.size [] s 0).ok (oPl_new w s) ((Ext.refl [] _).alloc _) (by simp), by omega, by simp⟩
  have S := (Sep.start w).new hx2 (oFi (w.heap.size + 1) w.heap.size [] s 0) hP0 (fun k hk => by simp [oFi] at hk; omega)
  have S := S.new (Ext.refl _ _) (oSl 34 3 (.slice none 0 0) 0 (pcC [])) (World.ownsRow_nil _ _ _ _) (fun q hq => by simp [oSl, Value.ownBlock] at hq)
  obtain ⟨fb, hfbe⟩ : ∃ fb, w.heap.size + 1 = fb := ⟨_, rfl⟩
  obtain ⟨mb, hmbe⟩ : ∃ mb, w.heap.size = mb := ⟨_, rfl⟩
  have HS := Lib.hid S
  clear hx2 hfb hP0 S hmm
  rw [hfbe, hmbe] at HS
  rw [hfbe, hmbe]
  clear hfbe hmbe
  go_loopg [4, 5] (s.size + 1) (fun g ov iv wr => ∃ (p nx : Nat) (F : List Nat) (L : List Pc), iv = .int .i64 p ∧ p ≤ s.size ∧ s.size < p + g ∧ nx ≤ p ∧ L.length ≤ p ∧ L ++ allF s g p = R ∧ Sep w wr [oSl 34 3 ov L.length (pcC L), oFi fb mb F s nx])
  case atStart => exact ⟨0, 0, [], [], rfl, by omega, by omega, by omega, by simp, HR.out, HS.out⟩
  case round =>
    clear HS HR
    obtain ⟨p, nx, F, L, rfl, hp, hg, hnx, hLp, hR, S⟩ := hrel
    have HR := Lib.hid hR
    clear hR
    by_cases hlt : p < s.size
    · obtain ⟨g', rfl⟩ : ∃ g', gk = g' + 1 := ⟨gk - 1, by omega⟩
      have hfit := findN_fit s p hp
      have hR := HR.out
      rw [allF, if_pos hlt] at hR
      have HR := Lib.hid hR
      clear hR
      have HS := Lib.hid S
      clear S
      go_wp2_with fail
      refine (know_walk fb mb nx p F s wr (HS.out.get 1 rfl) hs hnx hp).mono ?_
      rintro e w1 ⟨rfl, F1, hx1, hfr1, hP1⟩
      have HS := Lib.hid (HS.out.upd 1 (oFi fb mb F1 s p) rfl hx1 hfr1 hP1)
      clear hx1 hfr1 hP1
      go_wp2_with fail
      refine (find_walk fb mb p F1 s w1 (HS.out.get 1 rfl) hs hp).mono ?_
      rintro e w2 ⟨rfl, hx2⟩
      have HS := Lib.hid (HS.out.quiet hx2)
      clear hx2
      obtain ⟨n, hn⟩ : ∃ n, (findN s p).1 = n := ⟨_, rfl⟩
      obtain ⟨d, hd⟩ : ∃ d, (findN s p).2 = d := ⟨_, rfl⟩
      rw [hn] at hfit
      rw [hn, hd] at HR
      rw [hn, hd]
      clear hn hd
      have hown : w2.ownsRow 0 34 3 u4 L.length (pcC L) := HS.out.get 0 rfl
      by_cases h0 : 0 < n
      · have q0 : (0 : Int) < (n : Int) := by omega
        have hR := HR.out
        rw [if_pos h0] at hR
        have HR := Lib.hid hR
        clear hR
        go_wp2_with (first | (at_builtin; refine wpList_append_lies _ rfl _ _ 23 rfl 0 34 i0 _ 3 24 Try.underlying23 hif hz0 hz1 hz2 rfl (by decide) u4 L.length _ rfl (World.ownsRow.alloc hown _) ⟨w2.heap.size, 0, none⟩ 1 1 (pcC [(0, (n : Int), (d : Int))]) rfl rfl (cells_pc w2 0 n d _) (by simp [pcC, Value.oneCell']) (by decide) (by unfold maxLen; omega) (by omega) (by omega) (w2.heap.size + 1) (by simp) ?_; intro g cap2 w6 hown1 hgrow hat hlt6))
        go_roundg g'
        case measure => omega
        case rel =>
          have P := push_local (cap := cap2) (n := L.length + 1) hgrow hat
          have Q := HS.out.upd 0 (oSl 34 3 (.slice (some ⟨g, 0, none⟩) (L.length + 1) cap2) (L.length + 1) (pcC (L ++ [((0 : UInt8), (n : Int), (d : Int))]))) rfl P.1 P.2 (by rw [pcC_append]; have hown2 := hown1; simpa [oSl] using hown2)
          refine ⟨p + n, p, F1, L ++ [((0 : UInt8), (n : Int), (d : Int))], by go_num, by omega, by omega, by omega, by simp; omega, ?_, by simpa using Q⟩
          rw [List.append_assoc]
          exact HR.out
      · obtain rfl : n = 0 := by omega
        have hR := HR.out
        rw [if_neg h0, ← bget s p hlt] at hR
        have hlt2 : (p : Int) < (s.size : Int) := by omega
        obtain ⟨x, hx⟩ : ∃ x, s[p]'hlt = x := ⟨_, rfl⟩
        rw [hx] at hR
        have HR := Lib.hid hR
        clear hR hfit
        go_wp2_with (first | (at_builtin; refine wpList_append_lies _ rfl _ _ 23 rfl 0 34 i0 _ 3 24 Try.underlying23 hif hz0 hz1 hz2 rfl (by decide) u4 L.length _ rfl (World.ownsRow.alloc hown _) ⟨w2.heap.size, 0, none⟩ 1 1 (pcC [(x, 0, 0)]) rfl rfl (cells_pc w2 x 0 0 _) (by simp [pcC, Value.oneCell']) (by decide) (by unfold maxLen; omega) (by omega) (by omega) (w2.heap.size + 1) (by simp) ?_; intro g cap2 w6 hown1 hgrow hat hlt6))
        go_roundg g'
        case measure => omega
        case rel =>
          have P := push_local (cap := cap2) (n := L.length + 1) hgrow hat
          have Q := HS.out.upd 0 (oSl 34 3 (.slice (some ⟨g, 0, none⟩) (L.length + 1) cap2) (L.length + 1) (pcC (L ++ [(x, (0 : Int), (0 : Int))]))) rfl P.1 P.2 (by rw [pcC_append]; have hown2 := hown1; simpa [oSl] using hown2)
          refine ⟨p + 1, p, F1, L ++ [(x, (0 : Int), (0 : Int))], by go_num, by omega, by omega, by omega, by simp; omega, ?_, by simpa using Q⟩
          rw [List.append_assoc]
          exact HR.out
    · obtain rfl : p = s.size := by omega
      have hR := HR.out
      have e : allF s gk s.size = [] := by cases gk <;> simp [allF]
      rw [e, List.append_nil] at hR
      subst hR
      have HS := Lib.hid S
      clear S HR e
      go_wp2_with fail
      go_ret
      exact ⟨_, rfl, HS.out.ext, HS.out.get 0 rfl, HS.out.base _ (List.mem_cons_self ..)⟩
end Go.Proofs.Ytngfhnpelchplaa.Mt
