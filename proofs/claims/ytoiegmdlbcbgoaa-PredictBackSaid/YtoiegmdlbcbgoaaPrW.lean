/-
  predict.Get of what Put told, the predictors with a way ahead of each row: walked.
-/
import Derived.Test.YtoiegmdlbcbgoaaPrV
namespace Go.Proofs.Ytoiegmdlbcbgoaa.Pr
open Go.RowKit
attribute [local go_sem] Oper.semAt_some

section
variable {P : Program} {C : World → Prop} {Q : Exit → Go.Act → World → Prop}
/-- a region that only reads and calls quietly, in a round -/
theorem rnd_quiet {lr k id : Nat} {a : Go.Act} {w : World} {l : List Oper} (hm : P.follows .mixedOrders = true) (hB : Region.lexB .any l.toArray = true) (hd : l.all noDefer = true) (hL : ¬ LetsOut Q) (hC : C { w with drawn := w.drawn + 1 })
    (h : wpQuiet P l.toArray C (fun a' => ∀ w', C w' → Q .normal a' w') l a) : (Code.region id l.toArray true).wpIn (rnd lr) k P Q a w := by
  simp only [Region.lexB, Bool.and_eq_true] at hB
  refine rnd_any hm hd hL (wpAny_of_quiet (Q := fun a' => ∀ w', C w' → Q .normal a' w') (fun _ w' hw' h => h w' hw') _ _ _ _ hC ?_)
  have := wpAnyQ_lex (C := C) (md := .any) hB.1 l.toArray.toList 0 (Array.replicate l.toArray.size false) a (by simp) (by simpa using hB.2) (by simpa using h)
  simpa using this
/-- reads and quiet calls, then a forced tail, in a round -/
theorem rnd_quiet_tail {lr k id : Nat} {a : Go.Act} {w : World} {l : List Oper} (m : Nat) (hm : P.follows .mixedOrders = true) (hB : Region.lexTailB .any l.toArray m = true) (hd : l.all noDefer = true) (hL : ¬ LetsOut Q) (hC : C { w with drawn := w.drawn + 1 })
    (h : wpQuiet P l.toArray C (fun a' => ∀ w', C w' → wpList P l.toArray Q (l.drop m) a' w') (l.take m) a) : (Code.region id l.toArray true).wpIn (rnd lr) k P Q a w := by
  simp only [Region.lexTailB, Bool.and_eq_true, decide_eq_true_eq] at hB
  obtain ⟨⟨⟨⟨hsel, hn⟩, hs⟩, hc⟩, hlex⟩ := hB
  have hn' : m < l.length := by simpa using hn
  have htl : (l.take m).length = m := by simp; omega
  have hdl : (l.drop m).length = l.toArray.size - m := by simp
  have H := anyB_lex (md := .any) (g := l.toArray.size - m) hsel hs hc hn (l.take m) 0 _ a (fun j hj => by
    have hj' : j < m := by rw [htl] at hj; exact hj
    simp [hj']) (by simpa using htl) (headInv_start l m) (by rw [htl]; exact hlex) h
  refine rnd_any hm hd hL ?_
  have := wpAny_of_anyB (Q := Q) (g := l.toArray.size - m) (fun listed a' w' hw' hL => by
    have := wpAny_of_seq (md := .any) (Q' := Q) (l.drop m) m listed a' w' (fun j => by simp [List.getElem?_drop]) (by rw [hdl]; exact hL.1) (hL.2 w' hw')
    rwa [hdl] at this) _ _ _ _ hC H
  rw [htl, show m + (l.toArray.size - m) = l.toArray.size by omega] at this
  exact this
end
/-- the bytes as far as they are undone -/
def dec (f t : Nat → UInt8) (n Q q : Nat) : UInt8 := if q < Q ∧ q % (n + 1) ≠ 0 then f (q / (n + 1) * n + q % (n + 1) - 1) else t q
theorem dec_zero (f t : Nat → UInt8) (n : Nat) : dec f t n 0 = t := by funext q; unfold dec; rw [if_neg (by omega)]
theorem place (n j i : Nat) (hi : i < n) : (j * (n + 1) + 1 + i) % (n + 1) = 1 + i ∧ (j * (n + 1) + 1 + i) / (n + 1) = j := by
  have h1 : j * (n + 1) + 1 + i = (1 + i) + (n + 1) * j := by rw [Nat.mul_comm]; omega
  rw [h1]
  refine ⟨by rw [Nat.add_mul_mod_self_left, Nat.mod_eq_of_lt (by omega)], ?_⟩
  rw [Nat.add_mul_div_left _ _ (by omega), Nat.div_eq_of_lt (by omega)]
  omega
theorem dec_done (f t : Nat → UInt8) (n Q j i : Nat) (hi : i < n) (hQ : j * (n + 1) + 1 + i < Q) : dec f t n Q (j * (n + 1) + 1 + i) = f (j * n + i) := by
  obtain ⟨h1, h2⟩ := place n j i hi
  unfold dec
  rw [if_pos ⟨hQ, by omega⟩, h1, h2]
  congr 1
  omega
theorem dec_yet (f t : Nat → UInt8) (n Q q : Nat) (hQ : Q ≤ q) : dec f t n Q q = t q := by unfold dec; rw [if_neg (by omega)]
theorem dec_head (f t : Nat → UInt8) (n Q j : Nat) : dec f t n Q (j * (n + 1)) = t (j * (n + 1)) := by
  unfold dec
  rw [if_neg (fun h => h.2 (Nat.mul_mod_left _ _))]
theorem dec_skip (f t : Nat → UInt8) (n j q : Nat) : dec f t n (j * (n + 1) + 1) q = dec f t n (j * (n + 1)) q := by
  unfold dec
  by_cases hq : q = j * (n + 1)
  · subst hq
    rw [if_neg (fun h => h.2 (Nat.mul_mod_left _ _)), if_neg (fun h => h.2 (Nat.mul_mod_left _ _))]
  · by_cases h1 : q < j * (n + 1) ∧ q % (n + 1) ≠ 0
    · rw [if_pos h1, if_pos ⟨by omega, h1.2⟩]
    · rw [if_neg h1, if_neg (fun h => h1 ⟨by omega, h.2⟩)]
theorem dec_step (f t : Nat → UInt8) (n j i : Nat) (hi : i < n) (q : Nat) : dec f t n (j * (n + 1) + 1 + i + 1) q = if q = j * (n + 1) + 1 + i then f (j * n + i) else dec f t n (j * (n + 1) + 1 + i) q := by
  by_cases hq : q = j * (n + 1) + 1 + i
  · subst hq
    rw [if_pos rfl, dec_done f t n _ j i hi (by omega)]
  · rw [if_neg hq]
    unfold dec
    by_cases h1 : q < j * (n + 1) + 1 + i ∧ q % (n + 1) ≠ 0
    · rw [if_pos h1, if_pos ⟨by omega, h1.2⟩]
    · rw [if_neg h1, if_neg (fun h => h1 ⟨by omega, h.2⟩)]
theorem rows_text (s : ByteArray) (n : Nat) : ∀ rows, s.size = rows * n → Pr.S ((List.range rows).flatMap fun j => (List.range n).map fun i => byteF s (j * n + i)) = s := fun rows hz => by
  have hl : ∀ j, ((List.range n).map fun i => byteF s (j * n + i)).length = n := fun j => by simp
  apply B_ext
  rw [B_S]
  apply List.ext_getElem?
  intro q
  by_cases hq : q < rows * n
  · have hn0 : 0 < n := by rcases Nat.eq_zero_or_pos n with h | h; (subst h; simp at hq); exact h
    have e : q = q / n * n + q % n := by rw [Nat.mul_comm]; exact (Nat.div_add_mod q n).symm
    have hm := Nat.mod_lt q hn0
    have hd : q / n < rows := (Nat.div_lt_iff_lt_mul hn0).2 hq
    have hg := flat_get (fun j => (List.range n).map fun i => byteF s (j * n + i)) n hl rows (q / n) (q % n) hd hm
    rw [← e] at hg
    rw [hg]
    rw [List.getElem?_map, List.getElem?_range hm]
    show some (byteF s (q / n * n + q % n)) = _
    rw [← e]
    unfold byteF
    rw [List.getD_eq_getElem?_getD, List.getElem?_eq_getElem (by rw [B_len]; omega)]
    rfl
  · rw [List.getElem?_eq_none (by rw [flat_len _ n hl]; omega), List.getElem?_eq_none (by rw [B_len]; omega)]
theorem undo_add (a g : UInt8) : ((((a - g).toNat : Nat) : Int) + ((g.toNat : Nat) : Int)) % 256 = ((a.toNat : Nat) : Int) := by
  have h1 := a.toNat_lt
  have h2 := g.toNat_lt
  rw [UInt8.toNat_sub]
  omega
theorem guessV_congr (way bs : Nat) (R R' U : Nat → UInt8) (i : Nat) (hbs : 1 ≤ bs) (h : ∀ q, q < i → R q = R' q) : guessV way bs R U i = guessV way bs R' U i := by
  unfold guessV
  split
  · rw [h (i - bs) (by omega)]
  · rfl
set_option maxRecDepth 100000 in
set_option maxHeartbeats 8000000 in
theorem get10_walk (s t : ByteArray) (p : Nat) (c b k : Int) (w : World) (hs : t.size ≤ 1048576) (h : gOk p c b k) (hp : 10 ≤ p) (hp2 : p ≤ 15) (n rows bs : Nat) (hn : rowN c b k = n) (hbs : besN c b = bs) (hz : s.size = rows * n) (ht : B t = (List.range rows).flatMap (rowO p bs n (byteF s))) :
    Calls Try.prog 14 #[.string t, gV p c b k] w fun e w' => e = .returned (.tuple #[.string s, .int .i64 0]) ∧ Ext [] w w' := by
  have htz : t.size = rows * (n + 1) := by rw [← B_len, ht, flat_len _ (n + 1) (rowO_len p bs n (byteF s))]
  have hcw := check_walk p c b k
  rw [show gE p c b k = 0 from if_pos h] at hcw
  have hrw := fun w => row_walk p c b k w h
  have hbw := fun w => begin_walk p c b k w h
  have hnb := rowN_bounds h
  rw [hn] at hrw hbw hnb
  rw [hbs] at hbw
  unfold gV at *
  have hb1 : 1 ≤ bs := by rw [← hbs]; unfold besN; omega
  have e1 : ((p : Int) == 1) = false := beq_eq_false_iff_ne.2 (by omega)
  have e2 : ((p : Int) == 2) = false := beq_eq_false_iff_ne.2 (by omega)
  have HCW := Lib.hid hcw
  have HRW := Lib.hid hrw
  have HBW := Lib.hid hbw
  have HZ := Lib.hid htz
  have hmod : (t.size : Int) % ((n : Int) + 1) = 0 := by rw [htz]; push_cast; exact Int.mul_emod_left _ _
  have hmod2 : Int.tmod (t.size : Int) ((n : Int) + 1) = 0 := by rw [Int.tmod_eq_emod_of_nonneg (by omega)]; exact hmod
  have HN := Lib.hid (⟨hn, hbs⟩ : _ ∧ _)
  have hzs := hz
  clear hcw hrw hbw htz hn hbs h hz
  refine (callsIn_wide (n := 0)).1 (callsIn_of_wp_marks Try.func14 rfl trivial ((wpIn_wide (n := 0)).2 ?_))
  simp only [Try.ntmps14, List.size_toArray, List.length_cons, List.length_nil, Nat.reduceAdd, Nat.reduceSub, Array.replicate_succ, Array.replicate_zero, List.push_toArray, List.append_toArray, List.nil_append, List.cons_append]
  go_upto_region 1 with (fail)
  obtain ⟨gb, hgb⟩ : ∃ gb, w.heap.size = gb := ⟨_, rfl⟩
  have S0 := (Sep.start w).new ((Ext.refl _ w).alloc (.cells #[.int .i64 (p : Int), .int .i64 c, .int .i64 b, .int .i64 k] 23)) (Ob.one w.heap.size (.cells #[.int .i64 (p : Int), .int .i64 c, .int .i64 b, .int .i64 k] 23 (0, 0))) (heap_alloc_at _) (fun q hq => by rw [List.mem_singleton.1 hq]; exact Nat.le_refl _)
  have S1 := S0.new ((Ext.refl _ _).alloc (.cells #[.string ⟨#[]⟩] 9)) (Ob.one (w.heap.size + 1) (.cells #[.string ⟨#[]⟩] 9 (0, 0))) (alloc2 _ _ _) (fun q hq => by rw [List.mem_singleton.1 hq]; simp)
  have S2 := S1.new ((Ext.refl _ _).alloc (.cells #[.int .i64 0] 26)) (Ob.one (w.heap.size + 1 + 1) (.cells #[.int .i64 0] 26 (0, 0))) (by
    have h := heap_alloc_at (w := (w.alloc (.cells #[.int .i64 (p : Int), .int .i64 c, .int .i64 b, .int .i64 k] 23)).alloc (.cells #[.string ⟨#[]⟩] 9)) (.cells #[.int .i64 0] 26)
    rw [show ((w.alloc (.cells #[.int .i64 (p : Int), .int .i64 c, .int .i64 b, .int .i64 k] 23)).alloc (.cells #[.string ⟨#[]⟩] 9)).heap.size = w.heap.size + 1 + 1 from by simp] at h
    exact h) (fun q hq => by rw [List.mem_singleton.1 hq]; simp)
  obtain ⟨W0, hW0⟩ : ∃ W0, ((w.alloc (.cells #[.int .i64 (p : Int), .int .i64 c, .int .i64 b, .int .i64 k] 23)).alloc (.cells #[.string ⟨#[]⟩] 9)).alloc (.cells #[.int .i64 0] 26) = W0 := ⟨_, rfl⟩
  rw [hW0] at S2
  rw [hW0]
  rw [hgb] at S2 ⊢
  have hg := S2.get 2 rfl
  have d0 : W0.cell? ⟨gb, 0, none⟩ = some (.int .i64 (p : Int)) := cellOf hg 0
  have d1 : W0.cell? ⟨gb, 1, none⟩ = some (.int .i64 c) := cellOf hg 1
  have d2 : W0.cell? ⟨gb, 2, none⟩ = some (.int .i64 b) := cellOf hg 2
  have d3 : W0.cell? ⟨gb, 3, none⟩ = some (.int .i64 k) := cellOf hg 3
  have HSp := Lib.hid S2
  clear S0 S1 S2 hW0 hgb hg
  go_wp2_with fail
  refine (HCW.out _).mono ?_
  clear d0 d1 d2 d3
  rintro e w1 ⟨rfl, hx1⟩
  have Sp := HSp.out.quiet hx1
  have HSp := Lib.hid Sp
  have hg := Sp.get 2 rfl
  have d0 : w1.cell? ⟨gb, 0, none⟩ = some (.int .i64 (p : Int)) := cellOf hg 0
  have d1 : w1.cell? ⟨gb, 1, none⟩ = some (.int .i64 c) := cellOf hg 1
  have d2 : w1.cell? ⟨gb, 2, none⟩ = some (.int .i64 b) := cellOf hg 2
  have d3 : w1.cell? ⟨gb, 3, none⟩ = some (.int .i64 k) := cellOf hg 3
  clear Sp hx1 hg
  go_wp2_with fail
  refine (HRW.out _).mono ?_
  clear d0 d1 d2 d3
  rintro e w2 ⟨rfl, hx1⟩
  have Sp := HSp.out.quiet hx1
  have HSp := Lib.hid Sp
  have hg := Sp.get 2 rfl
  have d0 : w2.cell? ⟨gb, 0, none⟩ = some (.int .i64 (p : Int)) := cellOf hg 0
  have d1 : w2.cell? ⟨gb, 1, none⟩ = some (.int .i64 c) := cellOf hg 1
  have d2 : w2.cell? ⟨gb, 2, none⟩ = some (.int .i64 b) := cellOf hg 2
  have d3 : w2.cell? ⟨gb, 3, none⟩ = some (.int .i64 k) := cellOf hg 3
  clear Sp hx1 hg
  go_wp2_with fail
  refine (HBW.out _).mono ?_
  clear d0 d1 d2 d3
  rintro e w3 ⟨cb, ab, rfl, S3⟩
  have Sp := sep_join HSp.out S3
  have Sp := Sp.new ((Ext.refl _ w3).alloc (.cells #[.pointer (some ⟨cb, 0, none⟩)] 40)) (Ob.one w3.heap.size (.cells #[.pointer (some ⟨cb, 0, none⟩)] 40 (0, 0))) (heap_alloc_at _) (fun q hq => by rw [List.mem_singleton.1 hq]; exact Nat.le_refl _)
  have Sp := Sp.new ((Ext.refl _ _).alloc (.cells #[.slice none 0 0] 42)) (oOut (w3.heap.size + 1) [w3.heap.size + 1] []) ⟨.slice none 0 0, alloc2 _ _ _, World.ownsRow_nil _ _ _ _, rfl, by simp [Value.ownBlock]⟩ (fun q hq => by rw [List.mem_singleton.1 hq]; simp)
  obtain ⟨V, hV⟩ : ∃ V, (w3.alloc (.cells #[.pointer (some ⟨cb, 0, none⟩)] 40)).alloc (.cells #[.slice none 0 0] 42) = V := ⟨_, rfl⟩
  obtain ⟨W4, cap, hcv, hx4, hc1, hc2, hrw4⟩ := conv_rw t V (by omega)
  rw [hV] at Sp
  have Sp := Sp.new hx4 (oRw V.heap.size (byteF t) t.size) hrw4 (fun q hq => by rw [List.mem_singleton.1 hq]; exact Nat.le_refl _)
  rw [← hV] at hcv
  have HSp := Lib.hid Sp
  obtain ⟨vb, hvb⟩ : ∃ vb, w3.heap.size = vb := ⟨_, rfl⟩
  have hvo : w3.heap.size + 1 = vb + 1 := by omega
  obtain ⟨sb, hsb⟩ : ∃ sb, V.heap.size = sb := ⟨_, rfl⟩
  have hsb2 : ((w3.alloc (.cells #[.pointer (some ⟨cb, 0, none⟩)] 40)).alloc (.cells #[.slice none 0 0] 42)).heap.size = sb := by rw [hV, hsb]
  rw [hsb, hvb] at HSp
  rw [hsb2] at hcv
  have HV := Lib.hid (⟨hvb, hvo, hsb, hsb2, hV⟩ : _ ∧ _ ∧ _ ∧ _ ∧ _)
  clear Sp S3 hx4 hrw4 hvb hvo hsb hsb2 hV
  go_wp2_with fail
  rw [HV.out.1]
  rw [show (n : Int) + 1 = ((n + 1 : Nat) : Int) by omega]
  refine (chunk_walk sb t.size cap (n + 1) _ (by omega)).mono ?_
  rintro e w5 ⟨rfl, rfl⟩
  go_wp2_with fail
  have hz := HZ.out
  have HC2 := Lib.hid hc2
  clear hc2
  refine wp_range (gf := 25) (lb := #[.pointer (some ⟨W4.heap.size, 0, none⟩), .pointer (some ⟨W4.heap.size + 1, 0, none⟩)]) rfl (Go.Proofs.enters_of Try.func25 (by kernel_rfl) rfl) (chunk_iter sb (n + 1) rows t.size cap W4.heap.size (W4.heap.size + 1) (by omega) hz.symm (by omega) hc1 HC2.out) (fun _ => rfl)
    (W4.heap.size + 2) (W4.heap.size + 3) (by simp) (by simp) (by simp) (by simp; omega) (fun W hx => ⟨hx.keep (heap_alloc_old _ (heap_alloc_at _)) (by simp), hx.keep (alloc2 _ _ _) (by simp)⟩)
    (fun pre W => ∃ F, Sep w W [Ob.room [W4.heap.size + 2, W4.heap.size + 3, W4.heap.size, W4.heap.size + 1], oRw sb (dec (byteF s) (byteF t) n (pre.length * (n + 1))) t.size, oOut (vb + 1) F (pre.flatMap (fun j => (List.range n).map fun i => byteF s (j * n + i))), Ob.one vb (.cells #[.pointer (some ⟨cb, 0, none⟩)] 40 (0, 0)), Ob.one cb (coderO bs n (if pre.length = 0 then ab else sb) (if pre.length = 0 then 0 else (pre.length - 1) * (n + 1) + 1) n), oSl 5 1 (.slice (some ⟨ab, 0, none⟩) n n) n ((List.replicate n 0).map c8), Ob.one (gb + 1 + 1) (.cells #[.int .i64 0] 26 (0, 0)), Ob.one (gb + 1) (.cells #[.string ⟨#[]⟩] 9 (0, 0)), Ob.one gb (.cells #[.int .i64 (p : Int), .int .i64 c, .int .i64 b, .int .i64 k] 23 (0, 0))]) (fun _ _ _ => False)
    (fun q A B' h hx => by obtain ⟨F, Sp⟩ := h; exact ⟨F, Sp.upd 0 (Ob.room [W4.heap.size + 2, W4.heap.size + 3, W4.heap.size, W4.heap.size + 1]) rfl (hx.mono (fun i _ hi => by simp at hi; show i ∈ [W4.heap.size + 2, W4.heap.size + 3, W4.heap.size, W4.heap.size + 1]; simp; omega)) (Fr.refl _ _) (fun k hk => Nat.lt_of_lt_of_le (Sp.get 0 rfl k hk) hx.size)⟩)
    (fun _ _ _ _ h _ => h)
    (fun W hx hw => by
      have hx' : Ext [] W4 W := (((Ext.refl _ W4).alloc _).alloc _).trans hx
      simp only [World.size_alloc] at hw
      have S9 := HSp.out.new hx' (Ob.room [W4.heap.size + 2, W4.heap.size + 3, W4.heap.size, W4.heap.size + 1]) (fun k hk => by simp at hk; omega) (fun k hk => by simp [Ob.room] at hk ⊢; omega)
      refine ⟨[vb + 1], ?_⟩
      rw [List.length_nil, Nat.zero_mul, dec_zero]
      exact S9)
    (fun x => { tmps := #[.string t, .agg #[.int .i64 (p : Int), .int .i64 c, .int .i64 b, .int .i64 k], undef, .pointer (some ⟨gb, 0, none⟩), .pointer (some ⟨gb + 1, 0, none⟩), .pointer (some ⟨gb + 1 + 1, 0, none⟩), .int .i64 0, .int .i64 ((n : Int) + 1), .pointer (some ⟨vb, 0, none⟩), .pointer (some ⟨vb + 1, 0, none⟩), rowS sb (n + 1) x, undef, undef, undef, .agg #[.int .i64 (p : Int), .int .i64 c, .int .i64 b, .int .i64 k], .int .i64 0, .int .i64 0, .bool false, undef, .agg #[.int .i64 (p : Int), .int .i64 c, .int .i64 b, .int .i64 k], .int .i64 n, .pointer (some ⟨gb, 0, none⟩), .int .i64 (p : Int), .bool true, .int .i64 n, .int .i64 ((n : Int) + 1), .bool false, .pointer (some ⟨gb, 0, none⟩), .int .i64 (p : Int), .bool false, undef, .bool false, .string t, .int .i64 t.size, .int .i64 ((n : Int) + 1), .int .i64 0, .bool false, .agg #[.int .i64 (p : Int), .int .i64 c, .int .i64 b, .int .i64 k], .pointer (some ⟨cb, 0, none⟩), .string t, .slice (some ⟨sb, 0, none⟩) t.size cap, .int .i64 ((n : Int) + 1), .func (.func 25) #[] #[.pointer (some ⟨W4.heap.size, 0, none⟩), .pointer (some ⟨W4.heap.size + 1, 0, none⟩)], rowS sb (n + 1) x, undef, undef, undef, undef, undef, undef, undef, undef, undef, undef, undef, undef, undef, undef, undef, undef, undef, undef, undef, undef, undef, undef, undef, undef, undef, undef, undef, undef, undef, undef, undef, undef, undef, undef, undef, undef, undef, undef, undef, undef, undef], defers := [] }) ?assign ?body ?done ?stop
  case assign =>
    intro x W K hK
    clear hz HZ
    unfold encR
    gi_wp2_with fail
    exact hK
  case stop => exact fun _ _ _ _ _ _ h _ => h.elim
  case body =>
    rintro pre j post W hxs ⟨F, Sp⟩
    obtain ⟨hpre, hlen, hj⟩ := range_pre hxs
    have hjn : (j + 1) * (n + 1) ≤ rows * (n + 1) := Nat.mul_le_mul_right (n + 1) hj
    rw [← hz, Nat.add_mul, Nat.one_mul] at hjn
    rw [hlen] at Sp
    have hU : ∃ ua uo, coderO bs n (if j = 0 then ab else sb) (if j = 0 then 0 else (j - 1) * (n + 1) + 1) n = coderO bs n ua uo n ∧ ∀ W' Q, j * (n + 1) ≤ Q → (oRw sb (dec (byteF s) (byteF t) n (Q)) t.size).P W' → (oSl 5 1 (.slice (some ⟨ab, 0, none⟩) n n) n ((List.replicate n 0).map c8)).P W' → ∀ i, i < n → W'.cell? ⟨ua, uo + i, none⟩ = some (c8 (abF (byteF s) n j i)) := by
      by_cases hj0 : j = 0
      · refine ⟨ab, 0, by rw [if_pos hj0, if_pos hj0], fun W' Q _ _ h2 i hi => ?_⟩
        unfold abF
        rw [if_pos hj0, Nat.zero_add]
        exact ownsRow_at (show W'.ownsRow 0 5 1 _ n _ from h2) (by simp [hi])
      · refine ⟨sb, (j - 1) * (n + 1) + 1, by rw [if_neg hj0, if_neg hj0], fun W' Q hQ h1 _ i hi => ?_⟩
        have e : (j - 1) * (n + 1) + (n + 1) = j * (n + 1) := by
          obtain ⟨q, rfl⟩ : ∃ q, j = q + 1 := ⟨j - 1, by omega⟩
          rw [Nat.add_sub_cancel, Nat.add_mul q 1 (n + 1), Nat.one_mul]
        have h3 := oRw_cell h1 ((j - 1) * (n + 1) + 1 + i) (by omega)
        rw [dec_done (byteF s) (byteF t) n Q (j - 1) i hi (by omega)] at h3
        unfold abF rwF
        rw [if_neg hj0]
        exact h3
    obtain ⟨ua, uo, hco, hU⟩ := hU
    rw [hco] at Sp
    have hout : (pre.flatMap (fun j => (List.range n).map fun i => byteF s (j * n + i))).length ≤ 4194304 := by
      rw [hpre, flat_len _ n (fun j => by simp)]
      have : j * n ≤ j * (n + 1) := Nat.mul_le_mul_left j (by omega)
      omega
    generalize hpl : pre.flatMap (fun j => (List.range n).map fun i => byteF s (j * n + i)) = out at Sp hout
    have Sp : Sep w W [Ob.room [W4.heap.size + 2, W4.heap.size + 3, W4.heap.size, W4.heap.size + 1], oRw sb (dec (byteF s) (byteF t) n (j * (n + 1) + 1 + 0)) t.size, oOut (vb + 1) F out, Ob.one vb (.cells #[.pointer (some ⟨cb, 0, none⟩)] 40 (0, 0)), Ob.one cb (coderO bs n ua uo n), oSl 5 1 (.slice (some ⟨ab, 0, none⟩) n n) n ((List.replicate n 0).map c8), Ob.one (gb + 1 + 1) (.cells #[.int .i64 0] 26 (0, 0)), Ob.one (gb + 1) (.cells #[.string ⟨#[]⟩] 9 (0, 0)), Ob.one gb (.cells #[.int .i64 (p : Int), .int .i64 c, .int .i64 b, .int .i64 k] 23 (0, 0))] := by
      rw [Nat.add_zero, show dec (byteF s) (byteF t) n (j * (n + 1) + 1) = dec (byteF s) (byteF t) n (j * (n + 1)) from funext (dec_skip _ _ n j)]
      exact Sp
    have Sp := keep_start Sp 0 rfl
    have hway : wayJ p bs n (byteF s) j < 5 := wayV_lt p bs _ _ n (by omega)
    have hT0 := rows_way p bs n (byteF s) rows j hj t ht
    have hTi : ∀ i, i < n → byteF t (j * (n + 1) + 1 + i) = byteF s (j * n + i) - guessV (wayJ p bs n (byteF s) j) bs (rwF (byteF s) n j) (abF (byteF s) n j) i := fun i hi => by
      rw [Nat.add_assoc, rows_get p bs n (byteF s) rows j (1 + i) hj (by omega) t ht, Nat.add_comm 1 i]
      unfold rowO
      rw [List.getD_cons_succ]
      unfold putR
      rw [List.getD_eq_getElem?_getD, List.getElem?_map, List.getElem?_range hi]
      rfl
    have hguess : ∀ W' i, i < n → Sep w W' [Ob.keep W [W4.heap.size + 2, W4.heap.size + 3, W4.heap.size, W4.heap.size + 1], oRw sb (dec (byteF s) (byteF t) n (j * (n + 1) + 1 + i)) t.size, oOut (vb + 1) F out, Ob.one vb (.cells #[.pointer (some ⟨cb, 0, none⟩)] 40 (0, 0)), Ob.one cb (coderO bs n ua uo n), oSl 5 1 (.slice (some ⟨ab, 0, none⟩) n n) n ((List.replicate n 0).map c8), Ob.one (gb + 1 + 1) (.cells #[.int .i64 0] 26 (0, 0)), Ob.one (gb + 1) (.cells #[.string ⟨#[]⟩] 9 (0, 0)), Ob.one gb (.cells #[.int .i64 (p : Int), .int .i64 c, .int .i64 b, .int .i64 k] 23 (0, 0))] → Calls Try.prog 23 #[.pointer (some ⟨cb, 0, none⟩), .int .u8 (wayJ p bs n (byteF s) j : Nat), .slice (some ⟨sb, j * (n + 1) + 1, none⟩) n n, .int .i64 i] W' fun e w' => e = .returned (c8 (guessV (wayJ p bs n (byteF s) j) bs (rwF (byteF s) n j) (abF (byteF s) n j) i)) ∧ Ext [] W' w' := fun W' i hi S => by
      have h := guess_walk (wayJ p bs n (byteF s) j) hway bs n i (fun q => dec (byteF s) (byteF t) n (j * (n + 1) + 1 + i) (j * (n + 1) + 1 + q)) (abF (byteF s) n j) cb sb (j * (n + 1) + 1) n ua uo n W' (S.get 4 rfl) (fun q hq => oRw_cell (S.get 1 rfl) _ (by omega)) (hU W' _ (by omega) (S.get 1 rfl) (S.get 5 rfl)) hi (by omega) hb1
      rw [guessV_congr _ bs _ (rwF (byteF s) n j) _ i hb1 (fun q hq => dec_done (byteF s) (byteF t) n _ j q (by omega) (by omega))] at h
      exact h
    generalize guessV (wayJ p bs n (byteF s) j) bs (rwF (byteF s) n j) (abF (byteF s) n j) = gs at hguess hTi
    generalize wayJ p bs n (byteF s) j = wy at hguess hway hT0
    obtain ⟨jn, hjn'⟩ : ∃ jn, j * (n + 1) = jn := ⟨_, rfl⟩
    have hrow0 : ∀ W', (oRw sb (dec (byteF s) (byteF t) n (j * (n + 1) + 1 + 0)) t.size).P W' → W'.cell? ⟨sb, j * (n + 1), none⟩ = some (.int .u8 (wy : Int)) := fun W' h => by
      have h1 := oRw_cell h (j * (n + 1)) (by omega)
      rw [dec_head, hT0] at h1
      unfold c8 at h1
      rw [UInt8.toNat_ofNat', Nat.mod_eq_of_lt (by omega)] at h1
      exact h1
    have hstep := fun i hi q => dec_step (byteF s) (byteF t) n j i hi q
    have hyet : ∀ i, i < n → dec (byteF s) (byteF t) n (j * (n + 1) + 1 + i) (j * (n + 1) + 1 + i) = byteF s (j * n + i) - gs i := fun i hi => by rw [dec_yet _ _ n _ _ (Nat.le_refl _), hTi i hi]
    have hdone : ∀ i, i < n → dec (byteF s) (byteF t) n (j * (n + 1) + 1 + n) (j * (n + 1) + 1 + i) = byteF s (j * n + i) := fun i hi => dec_done _ _ n _ j i hi (by omega)
    have hskip : dec (byteF s) (byteF t) n (j * (n + 1) + 1 + n) = dec (byteF s) (byteF t) n ((j + 1) * (n + 1)) := by rw [Nat.add_mul, Nat.one_mul]; congr 1; omega
    rw [hjn'] at hguess hrow0 hstep hyet hdone hskip Sp hjn
    have HS := Lib.hid Sp
    have HPL := Lib.hid hpl
    have HLN := Lib.hid hlen
    have HJN := Lib.hid hjn'
    have HGS := Lib.hid hguess
    have HST := Lib.hid hstep
    have HY := Lib.hid hyet
    have HDN := Lib.hid hdone
    have HSK := Lib.hid hskip
    have hg : W.heap[gb]? = some (.cells #[.int .i64 (p : Int), .int .i64 c, .int .i64 b, .int .i64 k] 23 (0, 0)) := Sp.get 8 rfl
    have d0 : W.cell? ⟨gb, 0, none⟩ = _ := cellOf hg 0
    have hrc := hrow0 W (Sp.get 1 rfl)
    have hjj : rowS sb (n + 1) j = .slice (some ⟨sb, jn, none⟩) (n + 1) (n + 1) := by unfold rowS; rw [hjn']
    rw [hjj]
    have q5 : ¬ (5 ≤ wy) := by omega
    clear Sp hU hpl hlen hguess hrow0 hstep hyet hdone hskip hTi hT0 hjn' hjj hxs hpre hz HZ HSp HCW HRW HBW HV hmod hmod2 hcv hco hg
    gi_wp2_with fail
    refine rnd_quiet (C := fun w' => ∃ x : Ex W, w' = x.w) (by kernel_rfl) (by kernel_rfl) (by kernel_rfl) (fun ⟨_, _, h⟩ => h) ⟨Ex.mk _ ((Ext.refl _ W).drew), rfl⟩ ?_
    have c0 : ∀ x : Ex W, x.w.cell? ⟨sb, jn, none⟩ = some (.int .u8 (wy : Int)) := fun x => x.cell hrc
    repeat (go_big_quiet_step (fail))
    refine wpQuiet_nil ?_
    rintro _ ⟨x6, rfl⟩
    obtain ⟨w6, hw6⟩ : ∃ w6, x6.w = w6 := ⟨_, rfl⟩
    have Sp := HS.out.quiet x6.ext
    rw [hw6] at Sp
    rw [hw6]
    have HS := Lib.hid Sp
    clear c0 d0 hrc Sp hw6
    gi_wp2_with fail
    gi_loopg [13, 61] n (fun gg _ iv wr => ∃ i : Nat, gg + i = n ∧ iv = .int .i64 i ∧ Sep w wr [Ob.keep W [W4.heap.size + 2, W4.heap.size + 3, W4.heap.size, W4.heap.size + 1], oRw sb (dec (byteF s) (byteF t) n (jn + 1 + i)) t.size, oOut (vb + 1) F out, Ob.one vb (.cells #[.pointer (some ⟨cb, 0, none⟩)] 40 (0, 0)), Ob.one cb (coderO bs n ua uo n), oSl 5 1 (.slice (some ⟨ab, 0, none⟩) n n) n ((List.replicate n 0).map c8), Ob.one (gb + 1 + 1) (.cells #[.int .i64 0] 26 (0, 0)), Ob.one (gb + 1) (.cells #[.string ⟨#[]⟩] 9 (0, 0)), Ob.one gb (.cells #[.int .i64 (p : Int), .int .i64 c, .int .i64 b, .int .i64 k] 23 (0, 0))])
    case atStart => exact ⟨0, by omega, rfl, HS.out⟩
    case round =>
      clear HS
      obtain ⟨i, hgi, rfl, Sp⟩ := hrel
      by_cases hin : i < n
      · have hcell : wr.cell? ⟨sb, jn + 1 + i, none⟩ = some (c8 (byteF s (j * n + i) - gs i)) := by
          have h := oRw_cell (Sp.get 1 rfl) (jn + 1 + i) (by omega)
          rw [HY.out i hin] at h
          exact h
        have hfree : wr.frozen? ⟨sb, jn + 1 + i, none⟩ = false := oRw_free (Sp.get 1 rfl) _ (by omega)
        have hvv : wr.heap[vb]? = some (.cells #[.pointer (some ⟨cb, 0, none⟩)] 40 (0, 0)) := Sp.get 3 rfl
        have hgu := fun W' S => HGS.out W' i hin S
        have hadd := undo_add (byteF s (j * n + i)) (gs i)
        generalize gs i = gz at *
        obtain ⟨z, hz'⟩ : ∃ z, byteF s (j * n + i) - gz = z := ⟨_, rfl⟩
        rw [hz'] at hcell hadd
        have z8 := z.toNat_lt
        have g8 := gz.toNat_lt
        have HS := Lib.hid Sp
        have HGU := Lib.hid hgu
        have HADD := Lib.hid hadd
        have HC := Lib.hid hcell
        have HF := Lib.hid hfree
        have i1 : (0 : Int) ≤ (i : Int) := by omega
        have i2 : (i : Int) < (n : Int) := by omega
        clear Sp hgu hadd hz' hcell hfree
        gi_wp2_with fail
        refine rnd_quiet_tail (C := fun w' => ∃ x : Ex wr, w' = x.w) 11 (by kernel_rfl) (by kernel_rfl) (by kernel_rfl) (fun ⟨_, _, h⟩ => h) ⟨Ex.mk _ ((Ext.refl _ wr).drew), rfl⟩ ?_
        simp only [List.take_succ_cons, List.take_zero, List.drop_succ_cons, List.drop_zero]
        have c0 : ∀ x : Ex wr, x.w.cell? ⟨sb, jn + 1 + i, none⟩ = some (.int .u8 ((z.toNat : Nat) : Int)) := fun x => x.cell HC.out
        have c1 : ∀ x : Ex wr, x.w.cell? ⟨vb, 0, none⟩ = some (.pointer (some ⟨cb, 0, none⟩)) := fun x => cellOf (x.heap hvv) 0
        repeat (go_big_quiet_step ((go_at_call 23; refine Calls.ext_of (HGU.out _ (HS.out.quiet (Ex.ext _))))))
        refine wpQuiet_nil ?_
        rintro _ ⟨x7, rfl⟩
        obtain ⟨w7, hw7⟩ : ∃ w7, x7.w = w7 := ⟨_, rfl⟩
        have Sp := HS.out.quiet x7.ext
        have e0 : w7.cell? ⟨sb, jn + 1 + i, none⟩ = some (.int .u8 ((z.toNat : Nat) : Int)) := by rw [← hw7]; exact x7.cell HC.out
        have e1 : w7.frozen? ⟨sb, jn + 1 + i, none⟩ = false := by rw [← hw7]; exact x7.free HC.out HF.out
        rw [hw7] at Sp
        rw [hw7]
        have HS7 := Lib.hid Sp
        clear c0 c1 Sp hw7 hvv
        go_wp2_with fail
        gi_wp2_with fail
        gi_roundg (n - (i + 1))
        case measure => omega
        case rel =>
          refine ⟨i + 1, by omega, by go_num, ?_⟩
          rw [HADD.out]
          exact HS7.out.upd 1 (oRw sb (dec (byteF s) (byteF t) n (jn + 1 + (i + 1))) t.size) rfl ((Ext.refl [sb] w7).setCell _ _ (.inl (by simp))) (Fr.refl _ _) (oRw_store (HS7.out.get 1 rfl) (jn + 1 + i) (byteF s (j * n + i)) (fun q _ => HST.out i hin q))
      · obtain rfl : n = i := by omega
        obtain ⟨v, hbv, _⟩ := Sp.get 2 rfl
        obtain ⟨NW, hNW⟩ : ∃ NW, (List.range n).map (fun i => byteF s (j * n + i)) = NW := ⟨_, rfl⟩
        have hnl : NW.length = n := by rw [← hNW]; simp
        obtain ⟨g3, cap3, w9, hr9, hb9, hsz9, Sp9⟩ := out_append Sp 2 rfl hbv 42 (.slice (some ⟨sb, jn + 1, none⟩) n n) NW (by
          rw [hnl]
          exact Src.ofSlice _ Try.underlying42 ⟨sb, jn + 1, none⟩ _ _ _ (by rw [List.length_map, hnl, Nat.mul_one]) (fun q u hu => by
            have hq : q < n := by have := (List.getElem?_eq_some_iff.1 hu).1; simpa [hnl] using this
            have h := oRw_cell (Sp.get 1 rfl) (jn + 1 + q) (by omega)
            rw [HDN.out q hq] at h
            have e : (⟨sb, jn + 1, none⟩ : Addr).add q = ⟨sb, jn + 1 + q, none⟩ := by unfold Addr.add; split <;> simp_all
            rw [e, h, ← hu, ← hNW, List.map_map, List.getElem?_map, List.getElem?_range hq]
            rfl) (by simp [c8, Value.oneCell'])) (by omega) (by omega)
        rw [hnl] at hr9 Sp9
        have HS9 := Lib.hid (mid_store Sp9 2 rfl)
        have hf9 : w9.frozen? ⟨vb + 1, 0, none⟩ = false := freeOf hb9 0
        have hc9 : w9.cell? ⟨vb + 1, 0, none⟩ = some v := cellOf hb9 0
        have o0 : wr.cell? ⟨vb + 1, 0, none⟩ = some v := cellOf hbv 0
        have HNW := Lib.hid hNW
        clear Sp9 hb9 Sp hbv hnl hNW
        gi_wp2_with (refine wpListIn_hid (fun ⟨_, _, h⟩ => h) rfl ?_)
        refine Lib.hid ?_
        go_wp2_with fail
        gi_wp2_with (refine wpListIn_hid (fun ⟨_, _, h⟩ => h) rfl ?_)
        refine Lib.hid ?_
        go_wp2_with (at_builtin; refine wpList_plain rfl (fun K hK => wp_append_run _ _ _ _ rfl rfl rfl hr9 (hK _ _ ?_)); clear hK K)
        obtain ⟨w10, hw10⟩ : ∃ w10, w9.setCell ⟨vb + 1, 0, none⟩ (.slice (some ⟨g3, 0, none⟩) (out.length + n) cap3) = w10 := ⟨_, rfl⟩
        rw [hw10] at HS9 ⊢
        have hvv4 : w10.heap[vb]? = some (.cells #[.pointer (some ⟨cb, 0, none⟩)] 40 (0, 0)) := HS9.out.get 3 rfl
        have hcb4 : w10.heap[cb]? = some (coderO bs n ua uo n) := HS9.out.get 4 rfl
        have v0 : w10.cell? ⟨vb, 0, none⟩ = some (.pointer (some ⟨cb, 0, none⟩)) := cellOf hvv4 0
        have v1 : w10.cell? ⟨cb, 1, none⟩ = some (.slice (some ⟨ua, uo, none⟩) n n) := cellOf hcb4 1
        have v2 : w10.frozen? ⟨cb, 1, none⟩ = false := freeOf hcb4 1
        have HS4 := Lib.hid hcb4
        have HW10 := Lib.hid hw10
        clear hc9 hf9 hvv4 hcb4 hw10 hr9 o0
        gi_wp2_with fail
        have Sp := HS9.out.upd 4 (Ob.one cb (coderO bs n sb (jn + 1) n)) rfl ((Ext.refl [cb] w10).setCell ⟨cb, 1, none⟩ (.slice (some ⟨sb, jn + 1, none⟩) n n) (.inl (by simp))) (Fr.refl _ _) (heap_setCell_same HS4.out _)
        have HE := keep_end Sp 0 rfl
        have Sp := HE.2
        refine ⟨HE.1, [vb + 1, g3], ?_⟩
        have e1 : (pre ++ [j]).flatMap (fun j => (List.range n).map fun i => byteF s (j * n + i)) = out ++ NW := by
          rw [List.flatMap_append, HPL.out]
          simp [← HNW.out]
        have e2 : (pre ++ [j]).length = j + 1 := by simp [HLN.out]
        rw [e1, e2, if_neg (by omega), if_neg (by omega), Nat.add_sub_cancel, HJN.out, ← HSK.out]
        exact Sp
  case done =>
    rintro W ⟨F, Sp⟩ hD
    obtain ⟨v, hbv, hown, hF, hne⟩ := Sp.get 2 rfl
    have d0 := cellOf hbv 0
    have hct := run_text hown
    have hr1 := Sp.get 7 rfl
    have hr2 := Sp.get 6 rfl
    have c1 : W.cell? ⟨gb + 1, 0, none⟩ = _ := cellOf hr1 0
    have c2 : W.cell? ⟨gb + 1 + 1, 0, none⟩ = _ := cellOf hr2 0
    have f1 : W.frozen? ⟨gb + 1, 0, none⟩ = false := freeOf hr1 0
    have f2 : W.frozen? ⟨gb + 1 + 1, 0, none⟩ = false := freeOf hr2 0
    obtain ⟨STR, hSTR⟩ : ∃ STR, Pr.S ((List.range rows).flatMap (fun j => (List.range n).map fun i => byteF s (j * n + i))) = STR := ⟨_, rfl⟩
    rw [hSTR] at hct
    have Sp2 := Sp.upd 7 (Ob.one (gb + 1) (.cells #[.string STR] 9 (0, 0))) rfl ((Ext.refl [gb + 1] W).setCell ⟨gb + 1, 0, none⟩ (.string STR) (.inl (by simp))) (Fr.refl _ _) (heap_setCell_same hr1 _)
    have Sp3 := Sp2.upd 6 (Ob.one (gb + 1 + 1) (.cells #[.int .i64 0] 26 (0, 0))) rfl ((Ext.refl [gb + 1 + 1] _).setCell ⟨gb + 1 + 1, 0, none⟩ (.int .i64 0) (.inl (by simp))) (Fr.refl _ _) (heap_setCell_same (Sp2.get 6 rfl) _)
    have HS := Lib.hid Sp3
    have hw4 := HSp.out.ext.size
    have HW4 := Lib.hid hw4
    have HSTR := Lib.hid hSTR
    have HDD := Lib.hid hD
    have hgt1 : gb + 1 < W4.heap.size := lt_of_block (HSp.out.get 6 rfl)
    have hgt2 : gb + 1 + 1 < W4.heap.size := lt_of_block (HSp.out.get 5 rfl)
    clear Sp Sp2 Sp3 hbv hown hF hne hw4 hz HZ hmod hmod2 hcv hSTR hr1 hr2 hD
    go_wp2_with fail
    obtain ⟨Wf, hWf⟩ : ∃ Wf, (W.setCell ⟨gb + 1, 0, none⟩ (.string STR)).setCell ⟨gb + 1 + 1, 0, none⟩ (.int .i64 0) = Wf := ⟨_, rfl⟩
    have hxf : Ext [gb + 1, gb + 1 + 1] W Wf := by rw [← hWf]; exact ((Ext.refl _ W).setCell _ _ (.inl (by simp))).setCell _ _ (.inl (by simp))
    have S := HS.out
    rw [hWf] at S ⊢
    have hD' := hxf.keep HDD.out (by simp; omega)
    have k1 : Wf.heap[gb + 1]? = some (.cells #[.string STR] 9 (0, 0)) := S.get 7 rfl
    have k2 : Wf.heap[gb + 1 + 1]? = some (.cells #[.int .i64 0] 26 (0, 0)) := S.get 6 rfl
    refine ⟨by simp, .inl ⟨_, _, rfl, run_takeDeferred hD', ?_⟩⟩
    have hxp := Ext.putObj Wf (W4.heap.size + 2) (.deferred none)
    refine ⟨_, results_cells rfl _ _ (gb + 1) (gb + 1 + 1) (.string STR) (.int .i64 0) rfl rfl (cellOf (hxp.keep k1 (by simp; omega)) 0) (cellOf (hxp.keep k2 (by simp; omega)) 0), by rw [← HSTR.out, rows_text s n rows hzs], ?_⟩
    exact S.ext.trans' hxp (fun k hk hkF => by simp at hkF; have := HW4.out; omega)
end Go.Proofs.Ytoiegmdlbcbgoaa.Pr
