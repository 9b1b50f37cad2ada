/-
  predict.Put, the predictors with a way ahead of each row: walked.
-/
import Derived.Test.YtoiegmdlbcbgoaaPrH
import Derived.Shelf.Abstract
namespace Go.Proofs.Ytoiegmdlbcbgoaa.Pr
open Go.RowKit
attribute [local go_sem] Oper.semAt_some

def rwF (f : Nat → UInt8) (n j : Nat) : Nat → UInt8 := fun i => f (j * n + i)
def abF (f : Nat → UInt8) (n j : Nat) : Nat → UInt8 := if j = 0 then fun _ => 0 else rwF f n (j - 1)
def wayJ (p bs n : Nat) (f : Nat → UInt8) (j : Nat) : Nat := wayV p bs (rwF f n j) (abF f n j) n
def rowO (p bs n : Nat) (f : Nat → UInt8) (j : Nat) : List UInt8 := UInt8.ofNat (wayJ p bs n f j) :: putR (wayJ p bs n f j) bs (rwF f n j) (abF f n j) n
theorem rowO_len (p bs n : Nat) (f : Nat → UInt8) (j : Nat) : (rowO p bs n f j).length = n + 1 := by simp [rowO, putR_len]
theorem rows_len (p bs n : Nat) (f : Nat → UInt8) : ∀ l : List Nat, (l.flatMap (rowO p bs n f)).length = l.length * (n + 1)
  | [] => by simp
  | a :: l => by rw [List.flatMap_cons, List.length_append, rowO_len, rows_len p bs n f l, List.length_cons, Nat.add_mul]; omega
theorem range_pre {rows : Nat} {pre post : List Nat} {x : Nat} (h : List.range rows = pre ++ x :: post) : pre = List.range x ∧ pre.length = x ∧ x < rows := by
  have hl : pre.length < rows := by
    have := congrArg List.length h
    simp at this; omega
  have h1 := congrArg (fun l => l[pre.length]?) h
  simp only [List.getElem?_range hl, List.getElem?_append_right (Nat.le_refl _), Nat.sub_self, List.getElem?_cons_zero, Option.some.injEq] at h1
  have h2 := congrArg (List.take pre.length) h
  rw [List.take_range, Nat.min_eq_left (by omega), List.take_left] at h2
  subst h1
  exact ⟨h2.symm, rfl, hl⟩
/-- worlds in which two blocks are known -/
def TwoW (b : Nat) (o : Obj) (b' : Nat) (o' : Obj) : Type := { w : World // w.heap[b]? = some o ∧ w.heap[b']? = some o' }
def TwoW.w {b b' : Nat} {o o' : Obj} (x : TwoW b o b' o') : World := x.val
theorem TwoW.h1 {b b' : Nat} {o o' : Obj} (x : TwoW b o b' o') : x.w.heap[b]? = some o := x.property.1
theorem TwoW.h2 {b b' : Nat} {o o' : Obj} (x : TwoW b o b' o') : x.w.heap[b']? = some o' := x.property.2
def TwoW.mk {b b' : Nat} {o o' : Obj} (w : World) (h1 : w.heap[b]? = some o) (h2 : w.heap[b']? = some o') : TwoW b o b' o' := ⟨w, h1, h2⟩
theorem sep_tail {w0 w : World} {o : Ob} {l : List Ob} (h : Sep w0 w (o :: l)) : Sep w0 w l :=
  ⟨h.ext, fun a ha => h.each a (List.mem_cons_of_mem _ ha), fun a ha => h.base a (List.mem_cons_of_mem _ ha), fun i j a b hi hj hij => h.apart (i + 1) (j + 1) a b (by simpa using hi) (by simpa using hj) (by omega)⟩
theorem sep_join {w w1 w2 : World} {L L' : List Ob} (h : Sep w w1 L) (h' : Sep w1 w2 L') : Sep w w2 (L' ++ L) := by
  have hq := h.quiet h'.ext
  have hlt : ∀ o ∈ L, ∀ k ∈ o.F, k < w1.heap.size := fun o ho => o.lt (h.each o ho)
  refine ⟨hq.ext, fun o ho => ?_, fun o ho k hk => ?_, ?_⟩
  · rcases List.mem_append.1 ho with h1 | h1
    · exact h'.each o h1
    · exact hq.each o h1
  · rcases List.mem_append.1 ho with h1 | h1
    · exact Nat.le_trans h.ext.size (h'.base o h1 k hk)
    · exact h.base o h1 k hk
  · intro i j a b hi hj hij k hk hkb
    by_cases hi1 : i < L'.length
    · rw [List.getElem?_append_left hi1] at hi
      by_cases hj1 : j < L'.length
      · rw [List.getElem?_append_left hj1] at hj
        exact h'.apart i j a b hi hj hij k hk hkb
      · rw [List.getElem?_append_right (by omega)] at hj
        have := h'.base a (List.mem_of_getElem? hi) k hk
        have := hlt b (List.mem_of_getElem? hj) k hkb
        omega
    · rw [List.getElem?_append_right (by omega)] at hi
      by_cases hj1 : j < L'.length
      · rw [List.getElem?_append_left hj1] at hj
        have := h'.base b (List.mem_of_getElem? hj) k hkb
        have := hlt a (List.mem_of_getElem? hi) k hk
        omega
      · rw [List.getElem?_append_right (by omega)] at hj
        exact h.apart (i - L'.length) (j - L'.length) a b hi hj (by omega) k hk hkb
set_option maxRecDepth 100000 in
set_option maxHeartbeats 8000000 in
theorem put10_walk (s : ByteArray) (p : Nat) (c b k : Int) (w : World) (hs : s.size ≤ 1048576) (h : gOk p c b k) (hp : 10 ≤ p) (hp2 : p ≤ 15) (n rows bs : Nat) (hn : rowN c b k = n) (hbs : besN c b = bs) (hz : s.size = rows * n) :
    Calls Try.prog 11 #[.string s, gV p c b k] w fun e w' => e = .returned (.tuple #[.string (Pr.S ((List.range rows).flatMap (rowO p bs n (byteF s)))), .int .i64 0]) ∧ Ext [] w w' := by
  have hcw := check_walk p c b k
  rw [show gE p c b k = 0 from if_pos h] at hcw
  have hrw := fun w => row_walk p c b k w h
  have hbw := fun w => begin_walk p c b k w h
  have hnb := rowN_bounds h
  rw [hn] at hrw hbw hnb
  rw [hbs] at hbw
  unfold gV at *
  have hb1 : 1 ≤ bs := by rw [← hbs]; unfold besN; omega
  have HCW := Lib.hid hcw
  have HRW := Lib.hid hrw
  have HBW := Lib.hid hbw
  have HZ := Lib.hid hz
  have hmod : (s.size : Int) % (n : Int) = 0 := by rw [hz]; simp
  have hmod2 : Int.tmod (s.size : Int) (n : Int) = 0 := by rw [Int.tmod_eq_emod_of_nonneg (by omega)]; exact hmod
  have HN := Lib.hid hn
  have HBS := Lib.hid hbs
  clear hcw hrw hbw hz hn hbs h
  have e1 : ((p : Int) == 1) = false := beq_eq_false_iff_ne.2 (by omega)
  have e2 : ((p : Int) == 2) = false := beq_eq_false_iff_ne.2 (by omega)
  refine (callsIn_wide (n := 0)).1 (callsIn_of_wp_marks Try.func11 rfl trivial ((wpIn_wide (n := 0)).2 ?_))
  simp only [Try.ntmps11, List.size_toArray, List.length_cons, List.length_nil, Nat.reduceAdd, Nat.reduceSub, Array.replicate_succ, Array.replicate_zero, List.push_toArray, List.append_toArray, List.nil_append, List.cons_append]
  go_wp2_with fail
  obtain ⟨W0, hW0, hg0, hx0⟩ : ∃ W, w.alloc (.cells #[.int .i64 (p : Int), .int .i64 c, .int .i64 b, .int .i64 k] 23) = W ∧ W.heap[w.heap.size]? = some (.cells #[.int .i64 (p : Int), .int .i64 c, .int .i64 b, .int .i64 k] 23 (0, 0)) ∧ Ext [] w W := ⟨_, rfl, heap_alloc_at _, (Ext.refl _ _).alloc _⟩
  rw [hW0]
  obtain ⟨gb, hgb⟩ : ∃ gb, w.heap.size = gb := ⟨_, rfl⟩
  rw [hgb] at hg0 ⊢
  have Sp := (Sep.start w).new hx0 (Ob.one gb (.cells #[.int .i64 (p : Int), .int .i64 c, .int .i64 b, .int .i64 k] 23 (0, 0))) hg0 (fun q hq => by rw [List.mem_singleton.1 hq]; omega)
  have HSp := Lib.hid Sp
  clear hW0 hg0 hx0 Sp hgb
  refine (HCW.out _).mono ?_
  rintro e w1 ⟨rfl, hx1⟩
  have Sp := HSp.out.quiet hx1
  have HSp := Lib.hid Sp
  have hg := Sp.get 0 rfl
  have d0 : w1.cell? ⟨gb, 0, none⟩ = _ := cellOf hg 0
  have d1 : w1.cell? ⟨gb, 1, none⟩ = _ := cellOf hg 1
  have d2 : w1.cell? ⟨gb, 2, none⟩ = _ := cellOf hg 2
  have d3 : w1.cell? ⟨gb, 3, none⟩ = _ := cellOf hg 3
  clear Sp hx1 hg
  go_wp2_with fail
  refine (HRW.out _).mono ?_
  clear d0 d1 d2 d3
  rintro e w2 ⟨rfl, hx1⟩
  have Sp := HSp.out.quiet hx1
  have HSp := Lib.hid Sp
  have hg := Sp.get 0 rfl
  have d0 : w2.cell? ⟨gb, 0, none⟩ = _ := cellOf hg 0
  have d1 : w2.cell? ⟨gb, 1, none⟩ = _ := cellOf hg 1
  have d2 : w2.cell? ⟨gb, 2, none⟩ = _ := cellOf hg 2
  have d3 : w2.cell? ⟨gb, 3, none⟩ = _ := cellOf hg 3
  clear Sp hx1 hg
  go_wp2_with fail
  refine (HBW.out _).mono ?_
  clear d0 d1 d2 d3
  rintro e w3 ⟨cb, ab, rfl, S3⟩
  have Sp := (HSp.out.quiet S3.ext)
  have Sp : Sep w w3 [Ob.one cb (coderO bs n ab 0 n), oSl 5 1 (.slice (some ⟨ab, 0, none⟩) n n) n ((List.replicate n 0).map c8), Ob.one gb (.cells #[.int .i64 (p : Int), .int .i64 c, .int .i64 b, .int .i64 k] 23 (0, 0))] := sep_join HSp.out S3
  have Sp := Sp.new ((Ext.refl _ w3).alloc (.cells #[.pointer (some ⟨cb, 0, none⟩)] 40)) (Ob.one w3.heap.size (.cells #[.pointer (some ⟨cb, 0, none⟩)] 40 (0, 0))) (heap_alloc_at _) (fun q hq => by rw [List.mem_singleton.1 hq]; exact Nat.le_refl _)
  have Sp := Sp.new ((Ext.refl _ _).alloc (.cells #[.slice none 0 0] 42)) (oOut (w3.heap.size + 1) [w3.heap.size + 1] []) ⟨.slice none 0 0, alloc2 _ _ _, World.ownsRow_nil _ _ _ _, rfl, by simp [Value.ownBlock]⟩ (fun q hq => by rw [List.mem_singleton.1 hq]; simp)
  obtain ⟨V, hV⟩ : ∃ V, (w3.alloc (.cells #[.pointer (some ⟨cb, 0, none⟩)] 40)).alloc (.cells #[.slice none 0 0] 42) = V := ⟨_, rfl⟩
  obtain ⟨W4, cap, hcv, hx4, hc1, hc2, hsz4, hcl⟩ := conv_ex s V (by omega)
  rw [hV] at Sp
  have Sp := Sp.new hx4 (oRd V.heap.size (byteF s) s.size) ⟨hsz4, hcl⟩ (fun q hq => by rw [List.mem_singleton.1 hq]; exact Nat.le_refl _)
  rw [← hV] at hcv
  have HSp := Lib.hid Sp
  obtain ⟨vb, hvb⟩ : ∃ vb, w3.heap.size = vb := ⟨_, rfl⟩
  have hvo : w3.heap.size + 1 = vb + 1 := by omega
  obtain ⟨sb, hsb⟩ : ∃ sb, V.heap.size = sb := ⟨_, rfl⟩
  have hsb2 : ((w3.alloc (.cells #[.pointer (some ⟨cb, 0, none⟩)] 40)).alloc (.cells #[.slice none 0 0] 42)).heap.size = sb := by rw [hV, hsb]
  rw [hsb, hvb] at HSp
  rw [hsb2] at hcv
  have HV := Lib.hid (⟨hvb, hvo, hsb, hsb2, hV⟩ : _ ∧ _ ∧ _ ∧ _ ∧ _)
  clear Sp S3 hx4 hcl hsz4 hvb hvo hsb hsb2 hV
  go_wp2_with fail
  rw [HV.out.1]
  refine (chunk_walk sb s.size cap n _ (by omega)).mono ?_
  rintro e w5 ⟨rfl, rfl⟩
  go_wp2_with fail
  have hz := HZ.out
  have HC2 := Lib.hid hc2
  clear hc2
  refine wp_range (gf := 25) (lb := #[.pointer (some ⟨W4.heap.size, 0, none⟩), .pointer (some ⟨W4.heap.size + 1, 0, none⟩)]) rfl (Go.Proofs.enters_of Try.func25 (by kernel_rfl) rfl) (chunk_iter sb n rows s.size cap W4.heap.size (W4.heap.size + 1) (by omega) hz.symm (by omega) hc1 HC2.out) (fun _ => rfl)
    (W4.heap.size + 2) (W4.heap.size + 3) (by simp) (by simp) (by simp) (by simp; omega) (fun W hx => ⟨hx.keep (heap_alloc_old _ (heap_alloc_at _)) (by simp), hx.keep (alloc2 _ _ _) (by simp)⟩)
    (fun pre W => ∃ F, Sep w W [Ob.room [W4.heap.size + 2, W4.heap.size + 3, W4.heap.size, W4.heap.size + 1], oRd sb (byteF s) s.size, oOut (vb + 1) F (pre.flatMap (rowO p bs n (byteF s))), Ob.one vb (.cells #[.pointer (some ⟨cb, 0, none⟩)] 40 (0, 0)), Ob.one cb (coderO bs n (if pre.length = 0 then ab else sb) (if pre.length = 0 then 0 else (pre.length - 1) * n) n), oSl 5 1 (.slice (some ⟨ab, 0, none⟩) n n) n ((List.replicate n 0).map c8), Ob.one gb (.cells #[.int .i64 (p : Int), .int .i64 c, .int .i64 b, .int .i64 k] 23 (0, 0))]) (fun _ _ _ => False)
    (fun q A B' h hx => by obtain ⟨F, Sp⟩ := h; exact ⟨F, Sp.upd 0 (Ob.room [W4.heap.size + 2, W4.heap.size + 3, W4.heap.size, W4.heap.size + 1]) rfl (hx.mono (fun i _ hi => by simp at hi; show i ∈ [W4.heap.size + 2, W4.heap.size + 3, W4.heap.size, W4.heap.size + 1]; simp; omega)) (Fr.refl _ _) (fun k hk => Nat.lt_of_lt_of_le (Sp.get 0 rfl k hk) hx.size)⟩)
    (fun _ _ _ _ h _ => h)
    (fun W hx hw => by
      have hx' : Ext [] W4 W := (((Ext.refl _ W4).alloc _).alloc _).trans hx
      simp only [World.size_alloc] at hw
      exact ⟨_, HSp.out.new hx' (Ob.room [W4.heap.size + 2, W4.heap.size + 3, W4.heap.size, W4.heap.size + 1]) (fun k hk => by simp at hk; omega) (fun k hk => by simp [Ob.room] at hk ⊢; omega)⟩)
    (fun x => { tmps := #[.string s, .agg #[.int .i64 (p : Int), .int .i64 c, .int .i64 b, .int .i64 k], undef, .pointer (some ⟨gb, 0, none⟩), .string ⟨#[]⟩, .int .i64 0, .int .i64 0, .int .i64 n, .pointer (some ⟨vb, 0, none⟩), .pointer (some ⟨vb + 1, 0, none⟩), rowS sb n x, undef, .agg #[.int .i64 (p : Int), .int .i64 c, .int .i64 b, .int .i64 k], .int .i64 0, .int .i64 0, .bool false, undef, .agg #[.int .i64 (p : Int), .int .i64 c, .int .i64 b, .int .i64 k], .int .i64 n, .bool false, .pointer (some ⟨gb, 0, none⟩), .int .i64 (p : Int), .bool false, undef, .bool false, .string s, .int .i64 s.size, .int .i64 n, .int .i64 0, .bool false, .agg #[.int .i64 (p : Int), .int .i64 c, .int .i64 b, .int .i64 k], .pointer (some ⟨cb, 0, none⟩), .string s, .slice (some ⟨sb, 0, none⟩) s.size cap, .int .i64 n, .func (.func 25) #[] #[.pointer (some ⟨W4.heap.size, 0, none⟩), .pointer (some ⟨W4.heap.size + 1, 0, none⟩)], rowS sb n x, undef, undef, undef, undef, undef, undef, undef, undef, undef, undef, undef, undef, undef, undef, undef, undef, undef, undef, undef, undef, undef, undef, undef, undef, undef, undef, undef, undef], defers := [] }) ?assign ?body ?done ?stop
  case assign =>
    intro x W K hK
    clear hz HZ
    unfold encR
    gi_wp2_with fail
    exact hK
  case stop => exact fun _ _ _ _ _ _ h _ => h.elim
  case body =>
    rintro pre j post W hxs ⟨F, Sp⟩
    obtain ⟨hpre, hlen, hj⟩ := range_pre hxs
    have hol := rows_len p bs n (byteF s) pre
    have hjn : (j + 1) * n ≤ rows * n := Nat.mul_le_mul_right n hj
    rw [← hz, Nat.add_mul, Nat.one_mul] at hjn
    have hR : ∀ W', (oRd sb (byteF s) s.size).P W' → ∀ i, i < n → W'.cell? ⟨sb, j * n + i, none⟩ = some (c8 (rwF (byteF s) n j i)) := fun W' h i hi => h.2 (j * n + i) (by omega)
    obtain ⟨ua, uo, hco, hU⟩ : ∃ ua uo, coderO bs n (if pre.length = 0 then ab else sb) (if pre.length = 0 then 0 else (pre.length - 1) * n) n = coderO bs n ua uo n ∧ ∀ W', (oRd sb (byteF s) s.size).P W' → (oSl 5 1 (.slice (some ⟨ab, 0, none⟩) n n) n ((List.replicate n 0).map c8)).P W' → ∀ i, i < n → W'.cell? ⟨ua, uo + i, none⟩ = some (c8 (abF (byteF s) n j i)) := by
      rw [hlen]
      by_cases hj0 : j = 0
      · refine ⟨ab, 0, by rw [if_pos hj0, if_pos hj0], fun W' _ h2 i hi => ?_⟩
        unfold abF
        rw [if_pos hj0, Nat.zero_add]
        exact ownsRow_at (show W'.ownsRow 0 5 1 _ n _ from h2) (by simp [hi])
      · refine ⟨sb, (j - 1) * n, by rw [if_neg hj0, if_neg hj0], fun W' h1 _ i hi => ?_⟩
        unfold abF
        rw [if_neg hj0]
        have : (j - 1) * n + n = j * n := by
          obtain ⟨q, rfl⟩ : ∃ q, j = q + 1 := ⟨j - 1, by omega⟩
          rw [Nat.add_sub_cancel, Nat.add_mul, Nat.one_mul]
        exact h1.2 ((j - 1) * n + i) (by omega)
    rw [hco] at Sp
    have hout : (pre.flatMap (rowO p bs n (byteF s))).length ≤ 4194304 := by
      rw [hol, hlen, Nat.mul_add, Nat.mul_one]
      have : j * 1 ≤ j * n := Nat.mul_le_mul_left j (by omega)
      omega
    generalize hpl : pre.flatMap (rowO p bs n (byteF s)) = out at Sp hout hol
    have Sp := keep_start Sp 0 rfl
    have HK := Lib.hid Sp
    have HHR := Lib.hid hR
    have HHU := Lib.hid hU
    have HPL := Lib.hid hpl
    have HLN := Lib.hid hlen
    have hway : wayJ p bs n (byteF s) j < 5 := wayV_lt p bs _ _ n (by omega)
    have hww : ∀ W', Sep w W' [Ob.keep W [W4.heap.size + 2, W4.heap.size + 3, W4.heap.size, W4.heap.size + 1], oRd sb (byteF s) s.size, oOut (vb + 1) F out, Ob.one vb (.cells #[.pointer (some ⟨cb, 0, none⟩)] 40 (0, 0)), Ob.one cb (coderO bs n ua uo n), oSl 5 1 (.slice (some ⟨ab, 0, none⟩) n n) n ((List.replicate n 0).map c8), Ob.one gb (.cells #[.int .i64 (p : Int), .int .i64 c, .int .i64 b, .int .i64 k] 23 (0, 0))] → Calls Try.prog 20 #[.pointer (some ⟨cb, 0, none⟩), .int .i64 p, .slice (some ⟨sb, j * n, none⟩) n n] W' fun e w' => e = .returned (.int .u8 (wayJ p bs n (byteF s) j : Nat)) ∧ Ext [] W' w' := fun W' S =>
      way_walk bs n _ _ cb sb (j * n) n ua uo n p hp hp2 W' (S.get 4 rfl) (hR W' (S.get 1 rfl)) (hU W' (S.get 1 rfl) (S.get 5 rfl)) (by omega) hb1
    have hpw : ∀ W', W'.heap[cb]? = some (coderO bs n ua uo n) → (oRd sb (byteF s) s.size).P W' → (oSl 5 1 (.slice (some ⟨ab, 0, none⟩) n n) n ((List.replicate n 0).map c8)).P W' → Calls Try.prog 21 #[.pointer (some ⟨cb, 0, none⟩), .int .u8 (wayJ p bs n (byteF s) j : Nat), .slice (some ⟨sb, j * n, none⟩) n n] W' fun e w' => ∃ g, e = .returned (.slice (some ⟨g, 0, none⟩) n n) ∧ Sep W' w' [oSl 5 1 (.slice (some ⟨g, 0, none⟩) n n) n ((putR (wayJ p bs n (byteF s) j) bs (rwF (byteF s) n j) (abF (byteF s) n j) n).map c8)] := fun W' h1 h2 h3 =>
      cput_walk _ hway bs n _ _ cb sb (j * n) n ua uo n W' h1 (hR W' h2) (hU W' h2 h3) (by omega) hb1
    have hrow : rowO p bs n (byteF s) j = UInt8.ofNat (wayJ p bs n (byteF s) j) :: putR (wayJ p bs n (byteF s) j) bs (rwF (byteF s) n j) (abF (byteF s) n j) n := rfl
    have hprl := putR_len (wayJ p bs n (byteF s) j) bs (rwF (byteF s) n j) (abF (byteF s) n j) n
    have hw8 : c8 (UInt8.ofNat (wayJ p bs n (byteF s) j)) = .int .u8 (wayJ p bs n (byteF s) j : Nat) := by
      unfold c8; rw [UInt8.toNat_ofNat', Nat.mod_eq_of_lt (by omega)]
    generalize putR (wayJ p bs n (byteF s) j) bs (rwF (byteF s) n j) (abF (byteF s) n j) n = PR at hpw hrow hprl
    generalize wayJ p bs n (byteF s) j = wy at hway hww hpw hrow hw8
    obtain ⟨wy8, hwy8⟩ : ∃ x, UInt8.ofNat wy = x := ⟨_, rfl⟩
    rw [hwy8] at hrow hw8
    obtain ⟨jn, hjn'⟩ : ∃ jn, j * n = jn := ⟨_, rfl⟩
    have HJN := Lib.hid hjn'
    rw [hjn'] at hww hpw
    have HWW := Lib.hid hww
    have HPW := Lib.hid hpw
    have HROW := Lib.hid hrow
    have HPRL := Lib.hid hprl
    have HW8 := Lib.hid hw8
    have hg := Sp.get 6 rfl
    have hv := Sp.get 3 rfl
    have d0 : W.cell? ⟨gb, 0, none⟩ = _ := cellOf hg 0
    have d1 : W.cell? ⟨vb, 0, none⟩ = _ := cellOf hv 0
    have hjj : rowS sb n j = .slice (some ⟨sb, jn, none⟩) n n := by unfold rowS; rw [hjn']
    rw [hjj]
    clear Sp hR hU hpl hlen hww hpw hrow hprl hw8 hg hv hwy8 hjn' hol hjn hjj hxs hpre hz HZ HSp HCW HRW HBW HV hmod hmod2 hcv hco
    gi_wp2_with fail
    refine CallsIn.mono (callsIn_rnd (HWW.out _ HK.out)) ?_
    rintro e w6 ⟨rfl, hx6⟩
    have Sp := HK.out.quiet hx6
    have HS := Lib.hid Sp
    obtain ⟨v, hbv, _⟩ := Sp.get 2 rfl
    have hvv := Sp.get 3 rfl
    clear d0 d1 hx6 HK HWW Sp
    gi_wp2_with fail
    refine rnd_perm (C := fun w' => ∃ x : TwoW (vb + 1) (bo v) vb (.cells #[.pointer (some ⟨cb, 0, none⟩)] 40 (0, 0)), w' = x.w) [0, 1, 4, 5, 6] 8 (by kernel_rfl) (by kernel_rfl) (by kernel_rfl) (fun ⟨_, _, h⟩ => h) ⟨TwoW.mk w6.drew hbv hvv, rfl⟩ ?_
    haveI : Nonempty (TwoW (vb + 1) (bo v) vb (.cells #[.pointer (some ⟨cb, 0, none⟩)] 40 (0, 0))) := ⟨TwoW.mk w6.drew hbv hvv⟩
    have c0 : ∀ x : TwoW (vb + 1) (bo v) vb (.cells #[.pointer (some ⟨cb, 0, none⟩)] 40 (0, 0)), x.w.cell? ⟨vb + 1, 0, none⟩ = some v := fun x => cellOf x.h1 0
    have c1 : ∀ x : TwoW (vb + 1) (bo v) vb (.cells #[.pointer (some ⟨cb, 0, none⟩)] 40 (0, 0)), x.w.cell? ⟨vb, 0, none⟩ = some (.pointer (some ⟨cb, 0, none⟩)) := fun x => cellOf x.h2 0
    simp only [pick, List.getElem?_toArray, List.getElem?_cons_zero, List.getElem?_cons_succ, List.drop_succ_cons, List.drop_zero]
    repeat (go_big_quiet_step (fail))
    refine wpQuiet_nil ?_
    clear c0 c1
    have Sp := (HS.out.quiet ((Ext.refl _ w6).drew)).new ((Ext.refl _ w6.drew).alloc (.cells #[.int .u8 (wy : Int)] 5)) (Ob.one w6.heap.size (.cells #[.int .u8 (wy : Int)] 5 (0, 0))) (heap_alloc_at _) (fun q hq => by rw [List.mem_singleton.1 hq]; exact Nat.le_refl _)
    have hbv1 : (w6.drew.alloc (.cells #[.int .u8 (wy : Int)] 5)).heap[vb + 1]? = some (bo v) := heap_alloc_old _ hbv
    have hvv1 := Sp.get 4 rfl
    have hx1 := Sp.get 0 rfl
    have HS := Lib.hid Sp
    clear Sp hbv hvv
    refine anyC_one (f := 2) (i := 2) (by kernel_rfl) (by decide) rfl rfl (fun K hK => ?_)
    go_wp2_with fail
    refine hK _ _ ⟨TwoW.mk _ hbv1 hvv1, rfl⟩ ?_
    clear hK K
    obtain ⟨g1, cap1, w7, hr7, hb7, hsz7, Sp⟩ := out_append HS.out 3 rfl hbv1 42 (.slice (some ⟨w6.heap.size, 0, none⟩) 1 1) [wy8] (Src.ofSlice _ Try.underlying42 ⟨w6.heap.size, 0, none⟩ _ _ _ rfl (fun j u hu => World.news_of_block hx1 j u (by rw [← hu, List.map_cons, HW8.out]; rfl)) (by simp [c8, Value.oneCell'])) (by simp) (by simp; omega)
    have hvv2 := Sp.get 4 rfl
    have hcb2 := Sp.get 5 rfl
    have hrd2 := Sp.get 2 rfl
    have hsl2 := Sp.get 6 rfl
    have HS := Lib.hid Sp
    clear Sp hbv1 hvv1 hx1
    refine anyC_one (f := 1) (i := 3) (by kernel_rfl) (by decide) rfl rfl (fun K hK => ?_)
    refine wp_append_run _ _ _ _ rfl rfl rfl hr7 ?_
    refine hK _ _ ⟨TwoW.mk _ hb7 hvv2, rfl⟩ ?_
    clear hK K hr7
    refine anyC_one (f := 0) (i := 7) (by kernel_rfl) (by decide) rfl rfl (fun K hK => ?_)
    go_wp2_with fail
    refine (HPW.out _ hcb2 hrd2 hsl2).mono ?_
    rintro e w8 ⟨g2, rfl, S8⟩
    have Sp := sep_join HS.out S8
    have hb8 : w8.heap[vb + 1]? = some (bo v) := S8.ext.keep hb7 (by simp)
    have hvv3 := Sp.get 5 rfl
    have hpl := HPRL.out
    obtain ⟨g3, cap3, w9, hr9, hb9, hsz9, Sp9⟩ := mid_append Sp 4 rfl 42 (.slice (some ⟨g2, 0, none⟩) n n) PR (by
      have hown : w8.ownsRow 0 5 1 (.slice (some ⟨g2, 0, none⟩) n n) n (PR.map c8) := Sp.get 0 rfl
      rw [hpl]
      exact Src.ofSlice _ Try.underlying42 ⟨g2, 0, none⟩ _ _ _ (by rw [List.length_map, hpl, Nat.mul_one]) (fun j u hu => by
        have := ownsRow_at (i := j) hown hu
        have e : (⟨g2, 0, none⟩ : Addr).add j = ⟨g2, j, none⟩ := by unfold Addr.add; split <;> simp_all
        rw [e]; exact this) (by simp [c8, Value.oneCell'])) (by omega) (by simp; omega)
    rw [hpl, show (out ++ [wy8]).length = out.length + 1 by simp] at hr9 Sp9
    have HS := Lib.hid (mid_store Sp9 4 rfl)
    have hf9 : w9.frozen? ⟨vb + 1, 0, none⟩ = false := freeOf hb9 0
    have hc9 : w9.cell? ⟨vb + 1, 0, none⟩ = some v := cellOf hb9 0
    refine hK _ _ ⟨TwoW.mk _ hb8 hvv3, rfl⟩ ?_
    clear hK K Sp Sp9 hb9 hb8 hvv3 hpl S8 hvv2 hcb2 hrd2 hsl2 hb7
    refine anyC_end (by kernel_rfl) ?_
    refine wpList_plain rfl (fun K hK => wp_append_run _ _ _ _ rfl rfl rfl hr9 (hK _ _ ?_))
    clear hK K hr9
    go_wp2_with fail
    refine NoPanic.normal ?_
    obtain ⟨w10, hw10⟩ : ∃ w10, w9.setCell ⟨vb + 1, 0, none⟩ (.slice (some ⟨g3, 0, none⟩) (out.length + 1 + n) cap3) = w10 := ⟨_, rfl⟩
    rw [hw10] at HS ⊢
    have hvv4 : w10.heap[vb]? = some (.cells #[.pointer (some ⟨cb, 0, none⟩)] 40 (0, 0)) := HS.out.get 5 rfl
    have hcb4 : w10.heap[cb]? = some (coderO bs n ua uo n) := HS.out.get 6 rfl
    have v0 : w10.cell? ⟨vb, 0, none⟩ = some (.pointer (some ⟨cb, 0, none⟩)) := cellOf hvv4 0
    have v1 : w10.cell? ⟨cb, 1, none⟩ = some (.slice (some ⟨ua, uo, none⟩) n n) := cellOf hcb4 1
    have v2 : w10.frozen? ⟨cb, 1, none⟩ = false := freeOf hcb4 1
    have HS4 := Lib.hid hcb4
    have HW10 := Lib.hid hw10
    clear hc9 hf9 hvv4 hcb4 hw10
    gi_wp2_with fail
    have Sp := HS.out.upd 6 (Ob.one cb (coderO bs n sb jn n)) rfl ((Ext.refl [cb] w10).setCell ⟨cb, 1, none⟩ (.slice (some ⟨sb, jn, none⟩) n n) (.inl (by simp))) (Fr.refl _ _) (heap_setCell_same HS4.out _)
    have HE := keep_end Sp 2 rfl
    have Sp := sep_tail (sep_tail HE.2)
    refine ⟨HE.1, [vb + 1, g3], ?_⟩
    have e1 : (pre ++ [j]).flatMap (rowO p bs n (byteF s)) = out ++ [wy8] ++ PR := by
      rw [List.flatMap_append, HPL.out]
      simp [HROW.out]
    have e2 : (pre ++ [j]).length = j + 1 := by simp [HLN.out]
    rw [e1, e2, if_neg (by omega), if_neg (by omega), Nat.add_sub_cancel, HJN.out]
    exact Sp
  case done =>
    rintro W ⟨F, Sp⟩ hD
    obtain ⟨v, hbv, hown, hF, hne⟩ := Sp.get 2 rfl
    have d0 := cellOf hbv 0
    have hct := run_text hown
    have HS := Lib.hid Sp
    have hg := Sp.get 6 rfl
    have hw4 := HSp.out.ext.size
    have HW4 := Lib.hid hw4
    clear Sp hbv hown hF hne hg hw4 hz HZ hmod hmod2 hcv
    go_wp2_with fail
    refine ⟨by simp, .inl ⟨_, _, rfl, run_takeDeferred hD, ?_⟩⟩
    refine ⟨_, results_tmp2 rfl _ _ _, rfl, ?_⟩
    exact HS.out.ext.trans' (Ext.putObj _ _ _) (fun k hk hkF => by simp at hkF; have := HW4.out; omega)
end Go.Proofs.Ytoiegmdlbcbgoaa.Pr
