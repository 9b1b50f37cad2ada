/-
  predict.Get of what Put told, the predictors with a way ahead of each row: walked.
-/
import Derived.Test.YtoiegmdlbcbgoaaPrU
import Derived.Shelf.Abstract
import Derived.Deep.CutBlock
import Derived.Deep.DeepCutAuto
namespace Go.Proofs.Ytoiegmdlbcbgoaa.Pr
open Go.RowKit
attribute [local go_sem] Oper.semAt_some

/-- bytes that are turned in place -/
def oRw (g : Nat) (f : Nat → UInt8) (n : Nat) : Ob where
  F := [g]
  P := fun w => ∃ cs fr, w.heap[g]? = some (.cells cs 5 fr) ∧ (∀ j, j < n → cs[j]? = some (c8 (f j))) ∧ n ≤ fr.1
  ok := fun h hx hS => by
    obtain ⟨cs, fr, h1, h2⟩ := h
    exact ⟨cs, fr, hx.keep h1 (hS g (by simp)), h2⟩
  lt := fun h k hk => by
    obtain ⟨cs, fr, h1, _⟩ := h
    rw [List.mem_singleton.1 hk]; exact lt_of_block h1
theorem oRw_cell {g : Nat} {f : Nat → UInt8} {n : Nat} {w : World} (h : (oRw g f n).P w) (j : Nat) (hj : j < n) : w.cell? ⟨g, j, none⟩ = some (c8 (f j)) := by
  obtain ⟨cs, fr, h1, h2, _⟩ := h
  rw [cellOf h1]; exact h2 j hj
theorem oRw_free {g : Nat} {f : Nat → UInt8} {n : Nat} {w : World} (h : (oRw g f n).P w) (j : Nat) (hj : j < n) : w.frozen? ⟨g, j, none⟩ = false := by
  obtain ⟨cs, fr, h1, _, h3⟩ := h
  simp [World.frozen?, h1]
  omega
theorem oRw_store {g : Nat} {f f' : Nat → UInt8} {n : Nat} {w : World} (h : (oRw g f n).P w) (q : Nat) (v : UInt8) (hf : ∀ j, j < n → f' j = if j = q then v else f j) : (oRw g f' n).P (w.setCell ⟨g, q, none⟩ (c8 v)) := by
  obtain ⟨cs, fr, h1, h2, h3⟩ := h
  refine ⟨_, fr, heap_setCell_same h1 _, fun j hj => ?_, h3⟩
  have hsz : j < cs.size := by
    have := h2 j hj
    exact (Array.getElem?_eq_some_iff.1 this).1
  rw [Array.getElem?_setIfInBounds, hf j hj]
  by_cases hjq : q = j
  · subst hjq; rw [if_pos rfl, if_pos hsz, if_pos rfl]
  · rw [if_neg hjq, if_neg (Ne.symm hjq)]; exact h2 j hj
theorem conv_rw (x : ByteArray) (W : World) (hx : x.size ≤ 1048576) : ∃ W' cap, (convert 9 42 (.string x)).run Try.prog W = .ok (.slice (some ⟨W.heap.size, 0, none⟩) x.size cap) W' ∧ Ext [] W W' ∧ x.size ≤ cap ∧ cap ≤ maxLen ∧ (oRw W.heap.size (byteF x) x.size).P W' := by
  refine ⟨Lib.bytesWorld W 5 x, grownCap W x.size 0 5, Lib.run_convert_string_bytes W 9 42 5 x Try.underlying9 Try.underlying42 Try.underlying5,
    ⟨rfl, rfl, rfl, by rw [Lib.bytesWorld_size]; omega, fun k hk _ => Lib.bytesWorld_at_old W _ x k hk⟩, grownCap_ge _ _ _ _, grownCap_le_maxLen _ _ _ _ (by unfold maxLen; omega), _, _, Lib.bytesWorld_at_new W _ x, fun j hj => ?_, ?_⟩
  · have h := Lib.bytesWorld_cell W 5 x j hj
    rw [cellOf (Lib.bytesWorld_at_new W 5 x)] at h
    rw [h]
    unfold byteF
    rw [List.getD_eq_getElem?_getD, List.getElem?_eq_getElem (by rw [B_len]; exact hj)]
  · simp [Lib.bytesCells]
theorem results_cells {fn : Func} {p q : Tmp} (h : fn.results = #[.cell p 9, .cell q 26]) (tmps : Array Value) (w : World) (b1 b2 : Nat) (v1 v2 : Value) (h1 : tmps.getD p undef = .pointer (some ⟨b1, 0, none⟩)) (h2 : tmps.getD q undef = .pointer (some ⟨b2, 0, none⟩)) (c1 : w.cell? ⟨b1, 0, none⟩ = some v1) (c2 : w.cell? ⟨b2, 0, none⟩ = some v2) :
    (results fn tmps).run Try.prog w = .ok (.tuple #[v1, v2]) w := by
  have e1 : tmps[p]?.getD undef = .pointer (some ⟨b1, 0, none⟩) := by simpa using h1
  have e2 : tmps[q]?.getD undef = .pointer (some ⟨b2, 0, none⟩) := by simpa using h2
  have r1 : (loadVar 9 ⟨b1, 0, none⟩).run Try.prog w = .ok v1 w := by
    simp [loadVar, c1, go_sem]
  have r2 : (loadVar 26 ⟨b2, 0, none⟩).run Try.prog w = .ok v2 w := by
    simp [loadVar, c2, go_sem]
  simp [results, h, e1, e2, asAddr, r1, r2]
set_option maxRecDepth 100000 in
set_option maxHeartbeats 8000000 in
theorem getT_walk (t : ByteArray) (c b k : Int) (w : World) (hs : t.size ≤ 1048576) (h : gOk 2 c b k) (n rows bs : Nat) (hn : rowN c b k = n) (hbs : besN c b = bs) (htz : t.size = rows * n) :
    Calls Try.prog 14 #[.string t, gV 2 c b k] w fun e w' => e = .returned (.tuple #[.string (Pr.S ((List.range rows).flatMap fun j => tiffR true c b k (rwF (byteF t) n j) n)), .int .i64 0]) ∧ Ext [] w w' := by
  have hcw := check_walk 2 c b k
  rw [show gE 2 c b k = 0 from if_pos h] at hcw
  have hrw := fun w => row_walk 2 c b k w h
  have hbw := fun w => begin_walk 2 c b k w h
  have hnb := rowN_bounds h
  rw [hn] at hrw hbw hnb
  rw [hbs] at hbw
  unfold gV at *
  have htf := fun (sb jn rc : Nat) (R : Nat → UInt8) w hR => tiff_row true c b k n sb jn rc R w h hn hR
  have HTF := Lib.hid htf
  clear htf
  have HCW := Lib.hid hcw
  have HRW := Lib.hid hrw
  have HBW := Lib.hid hbw
  have HZ := Lib.hid htz
  have hmod : (t.size : Int) % ((n : Int)) = 0 := by rw [htz]; push_cast; exact Int.mul_emod_left _ _
  have hmod2 : Int.tmod (t.size : Int) ((n : Int)) = 0 := by rw [Int.tmod_eq_emod_of_nonneg (by omega)]; exact hmod
  have HN := Lib.hid (⟨hn, hbs⟩ : _ ∧ _)
  clear hcw hrw hbw htz hn hbs h
  refine (callsIn_wide (n := 0)).1 (callsIn_of_wp_marks Try.func14 rfl trivial ((wpIn_wide (n := 0)).2 ?_))
  simp only [Try.ntmps14, List.size_toArray, List.length_cons, List.length_nil, Nat.reduceAdd, Nat.reduceSub, Array.replicate_succ, Array.replicate_zero, List.push_toArray, List.append_toArray, List.nil_append, List.cons_append]
  go_upto_region 1 with (fail)
  obtain ⟨gb, hgb⟩ : ∃ gb, w.heap.size = gb := ⟨_, rfl⟩
  have S0 := (Sep.start w).new ((Ext.refl _ w).alloc (.cells #[.int .i64 2, .int .i64 c, .int .i64 b, .int .i64 k] 23)) (Ob.one w.heap.size (.cells #[.int .i64 2, .int .i64 c, .int .i64 b, .int .i64 k] 23 (0, 0))) (heap_alloc_at _) (fun q hq => by rw [List.mem_singleton.1 hq]; exact Nat.le_refl _)
  have S1 := S0.new ((Ext.refl _ _).alloc (.cells #[.string ⟨#[]⟩] 9)) (Ob.one (w.heap.size + 1) (.cells #[.string ⟨#[]⟩] 9 (0, 0))) (alloc2 _ _ _) (fun q hq => by rw [List.mem_singleton.1 hq]; simp)
  have S2 := S1.new ((Ext.refl _ _).alloc (.cells #[.int .i64 0] 26)) (Ob.one (w.heap.size + 1 + 1) (.cells #[.int .i64 0] 26 (0, 0))) (by
    have h := heap_alloc_at (w := (w.alloc (.cells #[.int .i64 2, .int .i64 c, .int .i64 b, .int .i64 k] 23)).alloc (.cells #[.string ⟨#[]⟩] 9)) (.cells #[.int .i64 0] 26)
    rw [show ((w.alloc (.cells #[.int .i64 2, .int .i64 c, .int .i64 b, .int .i64 k] 23)).alloc (.cells #[.string ⟨#[]⟩] 9)).heap.size = w.heap.size + 1 + 1 from by simp] at h
    exact h) (fun q hq => by rw [List.mem_singleton.1 hq]; simp)
  obtain ⟨W0, hW0⟩ : ∃ W0, ((w.alloc (.cells #[.int .i64 2, .int .i64 c, .int .i64 b, .int .i64 k] 23)).alloc (.cells #[.string ⟨#[]⟩] 9)).alloc (.cells #[.int .i64 0] 26) = W0 := ⟨_, rfl⟩
  rw [hW0] at S2
  rw [hW0]
  rw [hgb] at S2 ⊢
  have hg := S2.get 2 rfl
  have d0 : W0.cell? ⟨gb, 0, none⟩ = some (.int .i64 2) := cellOf hg 0
  have d1 : W0.cell? ⟨gb, 1, none⟩ = some (.int .i64 c) := cellOf hg 1
  have d2 : W0.cell? ⟨gb, 2, none⟩ = some (.int .i64 b) := cellOf hg 2
  have d3 : W0.cell? ⟨gb, 3, none⟩ = some (.int .i64 k) := cellOf hg 3
  have HSp := Lib.hid S2
  clear S0 S1 S2 hW0 hgb hg
  go_wp2_with fail
  refine (HCW.out _).mono ?_
  clear d0 d1 d2 d3
  rintro e w1 ⟨rfl, hx1⟩
  have Sp := HSp.out.quiet hx1
  have HSp := Lib.hid Sp
  have hg := Sp.get 2 rfl
  have d0 : w1.cell? ⟨gb, 0, none⟩ = some (.int .i64 2) := cellOf hg 0
  have d1 : w1.cell? ⟨gb, 1, none⟩ = some (.int .i64 c) := cellOf hg 1
  have d2 : w1.cell? ⟨gb, 2, none⟩ = some (.int .i64 b) := cellOf hg 2
  have d3 : w1.cell? ⟨gb, 3, none⟩ = some (.int .i64 k) := cellOf hg 3
  clear Sp hx1 hg
  go_wp2_with fail
  refine (HRW.out _).mono ?_
  clear d0 d1 d2 d3
  rintro e w2 ⟨rfl, hx1⟩
  have Sp := HSp.out.quiet hx1
  have HSp := Lib.hid Sp
  have hg := Sp.get 2 rfl
  have d0 : w2.cell? ⟨gb, 0, none⟩ = some (.int .i64 2) := cellOf hg 0
  have d1 : w2.cell? ⟨gb, 1, none⟩ = some (.int .i64 c) := cellOf hg 1
  have d2 : w2.cell? ⟨gb, 2, none⟩ = some (.int .i64 b) := cellOf hg 2
  have d3 : w2.cell? ⟨gb, 3, none⟩ = some (.int .i64 k) := cellOf hg 3
  clear Sp hx1 hg
  go_wp2_with fail
  refine (HBW.out _).mono ?_
  clear d0 d1 d2 d3
  rintro e w3 ⟨cb, ab, rfl, S3⟩
  have Sp := sep_join HSp.out S3
  have Sp := Sp.new ((Ext.refl _ w3).alloc (.cells #[.pointer (some ⟨cb, 0, none⟩)] 40)) (Ob.one w3.heap.size (.cells #[.pointer (some ⟨cb, 0, none⟩)] 40 (0, 0))) (heap_alloc_at _) (fun q hq => by rw [List.mem_singleton.1 hq]; exact Nat.le_refl _)
  have Sp := Sp.new ((Ext.refl _ _).alloc (.cells #[.slice none 0 0] 42)) (oOut (w3.heap.size + 1) [w3.heap.size + 1] []) ⟨.slice none 0 0, alloc2 _ _ _, World.ownsRow_nil _ _ _ _, rfl, by simp [Value.ownBlock]⟩ (fun q hq => by rw [List.mem_singleton.1 hq]; simp)
  obtain ⟨V, hV⟩ : ∃ V, (w3.alloc (.cells #[.pointer (some ⟨cb, 0, none⟩)] 40)).alloc (.cells #[.slice none 0 0] 42) = V := ⟨_, rfl⟩
  obtain ⟨W4, cap, hcv, hx4, hc1, hc2, hrw4⟩ := conv_rw t V (by omega)
  rw [hV] at Sp
  have Sp := Sp.new hx4 (oRw V.heap.size (byteF t) t.size) hrw4 (fun q hq => by rw [List.mem_singleton.1 hq]; exact Nat.le_refl _)
  rw [← hV] at hcv
  have HSp := Lib.hid Sp
  obtain ⟨vb, hvb⟩ : ∃ vb, w3.heap.size = vb := ⟨_, rfl⟩
  have hvo : w3.heap.size + 1 = vb + 1 := by omega
  obtain ⟨sb, hsb⟩ : ∃ sb, V.heap.size = sb := ⟨_, rfl⟩
  have hsb2 : ((w3.alloc (.cells #[.pointer (some ⟨cb, 0, none⟩)] 40)).alloc (.cells #[.slice none 0 0] 42)).heap.size = sb := by rw [hV, hsb]
  rw [hsb, hvb] at HSp
  rw [hsb2] at hcv
  have HV := Lib.hid (⟨hvb, hvo, hsb, hsb2, hV⟩ : _ ∧ _ ∧ _ ∧ _ ∧ _)
  clear Sp S3 hx4 hrw4 hvb hvo hsb hsb2 hV
  go_wp2_with fail
  rw [HV.out.1]
  skip
  refine (chunk_walk sb t.size cap n _ (by omega)).mono ?_
  rintro e w5 ⟨rfl, rfl⟩
  go_wp2_with fail
  have hz := HZ.out
  have HC2 := Lib.hid hc2
  clear hc2
  refine wp_range (gf := 25) (lb := #[.pointer (some ⟨W4.heap.size, 0, none⟩), .pointer (some ⟨W4.heap.size + 1, 0, none⟩)]) rfl (Go.Proofs.enters_of Try.func25 (by kernel_rfl) rfl) (chunk_iter sb n rows t.size cap W4.heap.size (W4.heap.size + 1) (by omega) hz.symm (by omega) hc1 HC2.out) (fun _ => rfl)
    (W4.heap.size + 2) (W4.heap.size + 3) (by simp) (by simp) (by simp) (by simp; omega) (fun W hx => ⟨hx.keep (heap_alloc_old _ (heap_alloc_at _)) (by simp), hx.keep (alloc2 _ _ _) (by simp)⟩)
    (fun pre W => ∃ F, Sep w W [Ob.room [W4.heap.size + 2, W4.heap.size + 3, W4.heap.size, W4.heap.size + 1], oRw sb (byteF t) t.size, oOut (vb + 1) F (pre.flatMap (fun j => tiffR true c b k (rwF (byteF t) n j) n)), Ob.one vb (.cells #[.pointer (some ⟨cb, 0, none⟩)] 40 (0, 0)), Ob.one cb (coderO bs n ab 0 n), oSl 5 1 (.slice (some ⟨ab, 0, none⟩) n n) n ((List.replicate n 0).map c8), Ob.one (gb + 1 + 1) (.cells #[.int .i64 0] 26 (0, 0)), Ob.one (gb + 1) (.cells #[.string ⟨#[]⟩] 9 (0, 0)), Ob.one gb (.cells #[.int .i64 2, .int .i64 c, .int .i64 b, .int .i64 k] 23 (0, 0))]) (fun _ _ _ => False)
    (fun q A B' h hx => by obtain ⟨F, Sp⟩ := h; exact ⟨F, Sp.upd 0 (Ob.room [W4.heap.size + 2, W4.heap.size + 3, W4.heap.size, W4.heap.size + 1]) rfl (hx.mono (fun i _ hi => by simp at hi; show i ∈ [W4.heap.size + 2, W4.heap.size + 3, W4.heap.size, W4.heap.size + 1]; simp; omega)) (Fr.refl _ _) (fun k hk => Nat.lt_of_lt_of_le (Sp.get 0 rfl k hk) hx.size)⟩)
    (fun _ _ _ _ h _ => h)
    (fun W hx hw => by
      have hx' : Ext [] W4 W := (((Ext.refl _ W4).alloc _).alloc _).trans hx
      simp only [World.size_alloc] at hw
      exact ⟨_, HSp.out.new hx' (Ob.room [W4.heap.size + 2, W4.heap.size + 3, W4.heap.size, W4.heap.size + 1]) (fun k hk => by simp at hk; omega) (fun k hk => by simp [Ob.room] at hk ⊢; omega)⟩)
    (fun x => { tmps := #[.string t, .agg #[.int .i64 2, .int .i64 c, .int .i64 b, .int .i64 k], undef, .pointer (some ⟨gb, 0, none⟩), .pointer (some ⟨gb + 1, 0, none⟩), .pointer (some ⟨gb + 1 + 1, 0, none⟩), .int .i64 0, .int .i64 n, .pointer (some ⟨vb, 0, none⟩), .pointer (some ⟨vb + 1, 0, none⟩), rowS sb n x, undef, undef, undef, .agg #[.int .i64 2, .int .i64 c, .int .i64 b, .int .i64 k], .int .i64 0, .int .i64 0, .bool false, undef, .agg #[.int .i64 2, .int .i64 c, .int .i64 b, .int .i64 k], .int .i64 n, .pointer (some ⟨gb, 0, none⟩), .int .i64 2, .bool false, undef, undef, .bool false, .pointer (some ⟨gb, 0, none⟩), .int .i64 2, .bool false, undef, .bool false, .string t, .int .i64 t.size, .int .i64 n, .int .i64 0, .bool false, .agg #[.int .i64 2, .int .i64 c, .int .i64 b, .int .i64 k], .pointer (some ⟨cb, 0, none⟩), .string t, .slice (some ⟨sb, 0, none⟩) t.size cap, .int .i64 n, .func (.func 25) #[] #[.pointer (some ⟨W4.heap.size, 0, none⟩), .pointer (some ⟨W4.heap.size + 1, 0, none⟩)], rowS sb n x, undef, undef, undef, undef, undef, undef, undef, undef, undef, undef, undef, undef, undef, undef, undef, undef, undef, undef, undef, undef, undef, undef, undef, undef, undef, undef, undef, undef, undef, undef, undef, undef, undef, undef, undef, undef, undef, undef, undef, undef, undef], defers := [] }) ?assign ?body ?done ?stop
  case assign =>
    intro x W K hK
    clear hz HZ
    unfold encR
    gi_wp2_with fail
    exact hK
  case stop => exact fun _ _ _ _ _ _ h _ => h.elim
  case body =>
    rintro pre j post W hxs ⟨F, Sp⟩
    obtain ⟨hpre, hlen, hj⟩ := range_pre hxs
    have hjn : (j + 1) * n ≤ rows * n := Nat.mul_le_mul_right n hj
    rw [← hz, Nat.add_mul, Nat.one_mul] at hjn
    have hR : ∀ W', (oRw sb (byteF t) t.size).P W' → ∀ i, i < n → W'.cell? ⟨sb, j * n + i, none⟩ = some (c8 (rwF (byteF t) n j i)) := fun W' h i hi => oRw_cell h (j * n + i) (by omega)
    have hout : (pre.flatMap (fun j => tiffR true c b k (rwF (byteF t) n j) n)).length ≤ 4194304 := by
      rw [hpre, flat_len _ n (fun j => tiffR_len _ _ _ _ _ _)]
      omega
    generalize hpl : pre.flatMap (fun j => tiffR true c b k (rwF (byteF t) n j) n) = out at Sp hout
    have Sp := keep_start Sp 0 rfl
    have HS := Lib.hid Sp
    have HPL := Lib.hid hpl
    have htw := fun W' h => HTF.out sb (j * n) n (rwF (byteF t) n j) W' (hR W' h)
    have hrow : (fun j => tiffR true c b k (rwF (byteF t) n j) n) j = tiffR true c b k (rwF (byteF t) n j) n := rfl
    have hrl := tiffR_len true c b k (rwF (byteF t) n j) n
    generalize tiffR true c b k (rwF (byteF t) n j) n = PR at htw hrow hrl
    obtain ⟨jn, hjn'⟩ : ∃ jn, j * n = jn := ⟨_, rfl⟩
    rw [hjn'] at htw
    have HTW := Lib.hid htw
    have HROW := Lib.hid hrow
    have HRL := Lib.hid hrl
    obtain ⟨v, hbv, _⟩ := Sp.get 2 rfl
    have hg : W.heap[gb]? = some (.cells #[.int .i64 2, .int .i64 c, .int .i64 b, .int .i64 k] 23 (0, 0)) := Sp.get 8 rfl
    have d0 : W.cell? ⟨gb, 0, none⟩ = _ := cellOf hg 0
    have hjj : rowS sb n j = .slice (some ⟨sb, jn, none⟩) n n := by unfold rowS; rw [hjn']
    rw [hjj]
    clear Sp hR hpl hlen htw hrow hrl hjn' hjn hjj hxs hpre hz HZ HSp HCW HRW HBW HV hmod hmod2 hcv HTF
    gi_wp2_with fail
    refine rnd_perm (C := fun w' => ∃ x : TwoW (vb + 1) (bo v) gb (.cells #[.int .i64 2, .int .i64 c, .int .i64 b, .int .i64 k] 23 (0, 0)), w' = x.w) [0, 1, 2] 4 (by kernel_rfl) (by kernel_rfl) (by kernel_rfl) (fun ⟨_, _, h⟩ => h) ⟨TwoW.mk W.drew hbv hg, rfl⟩ ?_
    haveI : Nonempty (TwoW (vb + 1) (bo v) gb (.cells #[.int .i64 2, .int .i64 c, .int .i64 b, .int .i64 k] 23 (0, 0))) := ⟨TwoW.mk W.drew hbv hg⟩
    have c0 : ∀ x : TwoW (vb + 1) (bo v) gb (.cells #[.int .i64 2, .int .i64 c, .int .i64 b, .int .i64 k] 23 (0, 0)), x.w.cell? ⟨vb + 1, 0, none⟩ = some v := fun x => cellOf x.h1 0
    have c1 : ∀ x : TwoW (vb + 1) (bo v) gb (.cells #[.int .i64 2, .int .i64 c, .int .i64 b, .int .i64 k] 23 (0, 0)), x.w.cell? ⟨gb, 0, none⟩ = some (.int .i64 2) := fun x => cellOf x.h2 0
    have c2 : ∀ x : TwoW (vb + 1) (bo v) gb (.cells #[.int .i64 2, .int .i64 c, .int .i64 b, .int .i64 k] 23 (0, 0)), x.w.cell? ⟨gb, 1, none⟩ = some (.int .i64 c) := fun x => cellOf x.h2 1
    have c3 : ∀ x : TwoW (vb + 1) (bo v) gb (.cells #[.int .i64 2, .int .i64 c, .int .i64 b, .int .i64 k] 23 (0, 0)), x.w.cell? ⟨gb, 2, none⟩ = some (.int .i64 b) := fun x => cellOf x.h2 2
    have c4 : ∀ x : TwoW (vb + 1) (bo v) gb (.cells #[.int .i64 2, .int .i64 c, .int .i64 b, .int .i64 k] 23 (0, 0)), x.w.cell? ⟨gb, 3, none⟩ = some (.int .i64 k) := fun x => cellOf x.h2 3
    simp only [pick, List.getElem?_toArray, List.getElem?_cons_zero, List.getElem?_cons_succ, List.drop_succ_cons, List.drop_zero]
    repeat (go_big_quiet_step (fail))
    refine wpQuiet_nil ?_
    clear c0 c1 c2 c3 c4 d0
    refine anyC_one (f := 0) (i := 3) (by kernel_rfl) (by decide) rfl rfl (fun K hK => ?_)
    go_wp2_with fail
    have HSD := Lib.hid (HS.out.quiet ((Ext.refl _ W).drew))
    refine (HTW.out _ (HSD.out.get 1 rfl)).mono ?_
    rintro e w8 ⟨g2, rfl, S8⟩
    have Sp := sep_join HSD.out S8
    have hb8 : w8.heap[vb + 1]? = some (bo v) := S8.ext.keep hbv (by simp)
    have hg8 : w8.heap[gb]? = some (.cells #[.int .i64 2, .int .i64 c, .int .i64 b, .int .i64 k] 23 (0, 0)) := S8.ext.keep hg (by simp)
    have hpl := HRL.out
    obtain ⟨g3, cap3, w9, hr9, hb9, hsz9, Sp9⟩ := out_append Sp 3 rfl hb8 42 (.slice (some ⟨g2, 0, none⟩) n n) PR (src_row (Sp.get 0 rfl)) (by omega) (by omega)
    rw [hpl] at hr9 Sp9
    have HS := Lib.hid (mid_store Sp9 3 rfl)
    have hf9 : w9.frozen? ⟨vb + 1, 0, none⟩ = false := freeOf hb9 0
    have hc9 : w9.cell? ⟨vb + 1, 0, none⟩ = some v := cellOf hb9 0
    refine hK _ _ ⟨TwoW.mk _ hb8 hg8, rfl⟩ ?_
    clear hK K Sp Sp9 hb9 hb8 hg8 hpl S8
    refine anyC_end (by kernel_rfl) ?_
    refine wpList_plain rfl (fun K hK => wp_append_run _ _ _ _ rfl rfl rfl hr9 (hK _ _ ?_))
    clear hK K hr9
    go_wp2_with fail
    refine NoPanic.normal ?_
    clear hc9 hf9
    gi_wp2_with fail
    have HE := keep_end HS.out 1 rfl
    have Sp := sep_tail HE.2
    refine ⟨HE.1, [vb + 1, g3], ?_⟩
    have e1 : (pre ++ [j]).flatMap (fun j => tiffR true c b k (rwF (byteF t) n j) n) = out ++ PR := by
      rw [List.flatMap_append, HPL.out]
      simp [HROW.out]
    rw [e1]
    exact Sp
  case done =>
    rintro W ⟨F, Sp⟩ hD
    obtain ⟨v, hbv, hown, hF, hne⟩ := Sp.get 2 rfl
    have d0 := cellOf hbv 0
    have hct := run_text hown
    have hr1 := Sp.get 7 rfl
    have hr2 := Sp.get 6 rfl
    have c1 : W.cell? ⟨gb + 1, 0, none⟩ = _ := cellOf hr1 0
    have c2 : W.cell? ⟨gb + 1 + 1, 0, none⟩ = _ := cellOf hr2 0
    have f1 : W.frozen? ⟨gb + 1, 0, none⟩ = false := freeOf hr1 0
    have f2 : W.frozen? ⟨gb + 1 + 1, 0, none⟩ = false := freeOf hr2 0
    obtain ⟨STR, hSTR⟩ : ∃ STR, Pr.S ((List.range rows).flatMap (fun j => tiffR true c b k (rwF (byteF t) n j) n)) = STR := ⟨_, rfl⟩
    rw [hSTR] at hct
    have Sp2 := Sp.upd 7 (Ob.one (gb + 1) (.cells #[.string STR] 9 (0, 0))) rfl ((Ext.refl [gb + 1] W).setCell ⟨gb + 1, 0, none⟩ (.string STR) (.inl (by simp))) (Fr.refl _ _) (heap_setCell_same hr1 _)
    have Sp3 := Sp2.upd 6 (Ob.one (gb + 1 + 1) (.cells #[.int .i64 0] 26 (0, 0))) rfl ((Ext.refl [gb + 1 + 1] _).setCell ⟨gb + 1 + 1, 0, none⟩ (.int .i64 0) (.inl (by simp))) (Fr.refl _ _) (heap_setCell_same (Sp2.get 6 rfl) _)
    have HS := Lib.hid Sp3
    have hw4 := HSp.out.ext.size
    have HW4 := Lib.hid hw4
    have HSTR := Lib.hid hSTR
    have HDD := Lib.hid hD
    have hgt1 : gb + 1 < W4.heap.size := lt_of_block (HSp.out.get 6 rfl)
    have hgt2 : gb + 1 + 1 < W4.heap.size := lt_of_block (HSp.out.get 5 rfl)
    clear Sp Sp2 Sp3 hbv hown hF hne hw4 hz HZ hmod hmod2 hcv hSTR hr1 hr2 hD
    go_wp2_with fail
    obtain ⟨Wf, hWf⟩ : ∃ Wf, (W.setCell ⟨gb + 1, 0, none⟩ (.string STR)).setCell ⟨gb + 1 + 1, 0, none⟩ (.int .i64 0) = Wf := ⟨_, rfl⟩
    have hxf : Ext [gb + 1, gb + 1 + 1] W Wf := by rw [← hWf]; exact ((Ext.refl _ W).setCell _ _ (.inl (by simp))).setCell _ _ (.inl (by simp))
    have S := HS.out
    rw [hWf] at S ⊢
    have hD' := hxf.keep HDD.out (by simp; omega)
    have k1 : Wf.heap[gb + 1]? = some (.cells #[.string STR] 9 (0, 0)) := S.get 7 rfl
    have k2 : Wf.heap[gb + 1 + 1]? = some (.cells #[.int .i64 0] 26 (0, 0)) := S.get 6 rfl
    refine ⟨by simp, .inl ⟨_, _, rfl, run_takeDeferred hD', ?_⟩⟩
    have hxp := Ext.putObj Wf (W4.heap.size + 2) (.deferred none)
    refine ⟨_, results_cells rfl _ _ (gb + 1) (gb + 1 + 1) (.string STR) (.int .i64 0) rfl rfl (cellOf (hxp.keep k1 (by simp; omega)) 0) (cellOf (hxp.keep k2 (by simp; omega)) 0), by rw [HSTR.out], ?_⟩
    exact S.ext.trans' hxp (fun k hk hkF => by simp at hkF; have := HW4.out; omega)
end Go.Proofs.Ytoiegmdlbcbgoaa.Pr
