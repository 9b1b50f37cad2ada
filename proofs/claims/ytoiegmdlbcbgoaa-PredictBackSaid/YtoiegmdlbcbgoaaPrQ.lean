/-
  predict.Put, predictor 2: walked.
-/
import Derived.Test.YtoiegmdlbcbgoaaPrP
import Derived.Test.YtoiegmdlbcbgoaaPrK
namespace Go.Proofs.Ytoiegmdlbcbgoaa.Pr
open Go.RowKit
attribute [local go_sem] Oper.semAt_some

def tiffR (undo : Bool) (c b k : Int) (R : Nat → UInt8) (n : Nat) : List UInt8 := tiffK undo b.toNat c.toNat R n (c * k).toNat
theorem tiffR_len (undo : Bool) (c b k : Int) (R : Nat → UInt8) (n : Nat) : (tiffR undo c b k R n).length = n := tiffK_len _ _ _ _ _ _
theorem tiff_row (undo : Bool) (c b k : Int) (n sb jn rc : Nat) (R : Nat → UInt8) (w : World) (h : gOk 2 c b k) (hn : rowN c b k = n) (hR : ∀ j, j < n → w.cell? ⟨sb, jn + j, none⟩ = some (c8 (R j))) :
    Calls Try.prog 19 #[.slice (some ⟨sb, jn, none⟩) n rc, .agg #[.int .i64 2, .int .i64 c, .int .i64 b, .int .i64 k], .bool undo] w fun e w' => ∃ g, e = .returned (.slice (some ⟨g, 0, none⟩) n n) ∧ Sep w w' [oSl 5 1 (.slice (some ⟨g, 0, none⟩) n n) n ((tiffR undo c b k R n).map c8)] := by
  have hb := gOk_bounds h
  have hnb := rowN_bounds h
  rw [hn] at hnb
  obtain ⟨c1, c2, b1, b2, k1, k2, m1, m2, q1, q2⟩ := hb
  obtain ⟨cs, hcs⟩ : ∃ cs : Nat, c = (cs : Int) := ⟨c.toNat, by omega⟩
  have hck1 : 1 ≤ c * k := by have := Int.mul_le_mul c1 k1 (by omega) (by omega : (0 : Int) ≤ c); omega
  have hck2 : c * k ≤ 16384 := by have := Int.mul_le_mul c2 k2 (by omega) (by omega : (0 : Int) ≤ 4); omega
  obtain ⟨cnt, hcnt⟩ : ∃ cnt : Nat, c * k = (cnt : Int) := ⟨(c * k).toNat, by omega⟩
  have hcl : cnt ≤ 16384 := by omega
  have hn2 : n = ((c * b * k + 7) / 8).toNat := by rw [← hn]; rfl
  rw [Int.mul_right_comm, hcnt] at hn2
  unfold tiffR
  rw [hcnt, show ((cnt : Int)).toNat = cnt by omega, show c.toNat = cs by omega]
  rw [hcs] at hcnt ⊢
  have hbk := h.2.2.1
  unfold bitsOk at hbk
  rcases hbk with rfl | rfl | rfl | rfl | rfl
  · exact tiff_lo undo 2 k cs cnt n sb jn rc R 1 (by unfold small; omega) (by omega) w hcnt (by omega) (by omega) (by omega) hR
  · exact tiff_lo undo 2 k cs cnt n sb jn rc R 2 (by unfold small; omega) (by omega) w hcnt (by omega) (by omega) (by omega) hR
  · exact tiff_lo undo 2 k cs cnt n sb jn rc R 4 (by unfold small; omega) (by omega) w hcnt (by omega) (by omega) (by omega) hR
  · exact tiff_lo undo 2 k cs cnt n sb jn rc R 8 (by unfold small; omega) (by omega) w hcnt (by omega) (by omega) (by omega) hR
  · exact tiff_16 undo 2 k cs cnt n sb jn rc R (by omega) w hcnt (by omega) (by omega) (by omega) hR
theorem src_row {w : World} {g n : Nat} {l : List UInt8} (h : w.ownsRow 0 5 1 (.slice (some ⟨g, 0, none⟩) n n) n (l.map c8)) : Src Try.prog 1 42 (.slice (some ⟨g, 0, none⟩) n n) l.length (l.map c8) w := by
  have hl : l.length = n := by have := h.1; simpa using this
  rw [hl]
  exact Src.ofSlice _ Try.underlying42 ⟨g, 0, none⟩ _ _ _ (by rw [List.length_map, hl, Nat.mul_one]) (fun j u hu => by
    have := ownsRow_at (i := j) h hu
    have e : (⟨g, 0, none⟩ : Addr).add j = ⟨g, j, none⟩ := by unfold Addr.add; split <;> simp_all
    rw [e]; exact this) (by simp [c8, Value.oneCell'])
set_option maxRecDepth 100000 in
set_option maxHeartbeats 8000000 in
theorem putT_walk (s : ByteArray) (c b k : Int) (w : World) (hs : s.size ≤ 1048576) (h : gOk 2 c b k) (n rows bs : Nat) (hn : rowN c b k = n) (hbs : besN c b = bs) (hz : s.size = rows * n) :
    Calls Try.prog 11 #[.string s, gV 2 c b k] w fun e w' => e = .returned (.tuple #[.string (Pr.S ((List.range rows).flatMap (fun j => tiffR false c b k (rwF (byteF s) n j) n))), .int .i64 0]) ∧ Ext [] w w' := by
  have hcw := check_walk 2 c b k
  rw [show gE 2 c b k = 0 from if_pos h] at hcw
  have hrw := fun w => row_walk 2 c b k w h
  have hbw := fun w => begin_walk 2 c b k w h
  have hnb := rowN_bounds h
  rw [hn] at hrw hbw hnb
  rw [hbs] at hbw
  unfold gV at *
  have htf := fun (sb jn rc : Nat) (R : Nat → UInt8) w hR => tiff_row false c b k n sb jn rc R w h hn hR
  have HTF := Lib.hid htf
  clear htf
  have HCW := Lib.hid hcw
  have HRW := Lib.hid hrw
  have HBW := Lib.hid hbw
  have HZ := Lib.hid hz
  have hmod : (s.size : Int) % (n : Int) = 0 := by rw [hz]; simp
  have hmod2 : Int.tmod (s.size : Int) (n : Int) = 0 := by rw [Int.tmod_eq_emod_of_nonneg (by omega)]; exact hmod
  have HN := Lib.hid hn
  have HBS := Lib.hid hbs
  clear hcw hrw hbw hz hn hbs h
  refine (callsIn_wide (n := 0)).1 (callsIn_of_wp_marks Try.func11 rfl trivial ((wpIn_wide (n := 0)).2 ?_))
  simp only [Try.ntmps11, List.size_toArray, List.length_cons, List.length_nil, Nat.reduceAdd, Nat.reduceSub, Array.replicate_succ, Array.replicate_zero, List.push_toArray, List.append_toArray, List.nil_append, List.cons_append]
  go_wp2_with fail
  obtain ⟨W0, hW0, hg0, hx0⟩ : ∃ W, w.alloc (.cells #[.int .i64 2, .int .i64 c, .int .i64 b, .int .i64 k] 23) = W ∧ W.heap[w.heap.size]? = some (.cells #[.int .i64 2, .int .i64 c, .int .i64 b, .int .i64 k] 23 (0, 0)) ∧ Ext [] w W := ⟨_, rfl, heap_alloc_at _, (Ext.refl _ _).alloc _⟩
  rw [hW0]
  obtain ⟨gb, hgb⟩ : ∃ gb, w.heap.size = gb := ⟨_, rfl⟩
  rw [hgb] at hg0 ⊢
  have Sp := (Sep.start w).new hx0 (Ob.one gb (.cells #[.int .i64 2, .int .i64 c, .int .i64 b, .int .i64 k] 23 (0, 0))) hg0 (fun q hq => by rw [List.mem_singleton.1 hq]; omega)
  have HSp := Lib.hid Sp
  clear hW0 hg0 hx0 Sp hgb
  refine (HCW.out _).mono ?_
  rintro e w1 ⟨rfl, hx1⟩
  have Sp := HSp.out.quiet hx1
  have HSp := Lib.hid Sp
  have hg := Sp.get 0 rfl
  have d0 : w1.cell? ⟨gb, 0, none⟩ = _ := cellOf hg 0
  have d1 : w1.cell? ⟨gb, 1, none⟩ = _ := cellOf hg 1
  have d2 : w1.cell? ⟨gb, 2, none⟩ = _ := cellOf hg 2
  have d3 : w1.cell? ⟨gb, 3, none⟩ = _ := cellOf hg 3
  clear Sp hx1 hg
  go_wp2_with fail
  refine (HRW.out _).mono ?_
  clear d0 d1 d2 d3
  rintro e w2 ⟨rfl, hx1⟩
  have Sp := HSp.out.quiet hx1
  have HSp := Lib.hid Sp
  have hg := Sp.get 0 rfl
  have d0 : w2.cell? ⟨gb, 0, none⟩ = _ := cellOf hg 0
  have d1 : w2.cell? ⟨gb, 1, none⟩ = _ := cellOf hg 1
  have d2 : w2.cell? ⟨gb, 2, none⟩ = _ := cellOf hg 2
  have d3 : w2.cell? ⟨gb, 3, none⟩ = _ := cellOf hg 3
  clear Sp hx1 hg
  go_wp2_with fail
  refine (HBW.out _).mono ?_
  clear d0 d1 d2 d3
  rintro e w3 ⟨cb, ab, rfl, S3⟩
  have Sp := (HSp.out.quiet S3.ext)
  have Sp : Sep w w3 [Ob.one cb (coderO bs n ab 0 n), oSl 5 1 (.slice (some ⟨ab, 0, none⟩) n n) n ((List.replicate n 0).map c8), Ob.one gb (.cells #[.int .i64 2, .int .i64 c, .int .i64 b, .int .i64 k] 23 (0, 0))] := sep_join HSp.out S3
  have Sp := Sp.new ((Ext.refl _ w3).alloc (.cells #[.pointer (some ⟨cb, 0, none⟩)] 40)) (Ob.one w3.heap.size (.cells #[.pointer (some ⟨cb, 0, none⟩)] 40 (0, 0))) (heap_alloc_at _) (fun q hq => by rw [List.mem_singleton.1 hq]; exact Nat.le_refl _)
  have Sp := Sp.new ((Ext.refl _ _).alloc (.cells #[.slice none 0 0] 42)) (oOut (w3.heap.size + 1) [w3.heap.size + 1] []) ⟨.slice none 0 0, alloc2 _ _ _, World.ownsRow_nil _ _ _ _, rfl, by simp [Value.ownBlock]⟩ (fun q hq => by rw [List.mem_singleton.1 hq]; simp)
  obtain ⟨V, hV⟩ : ∃ V, (w3.alloc (.cells #[.pointer (some ⟨cb, 0, none⟩)] 40)).alloc (.cells #[.slice none 0 0] 42) = V := ⟨_, rfl⟩
  obtain ⟨W4, cap, hcv, hx4, hc1, hc2, hsz4, hcl⟩ := conv_ex s V (by omega)
  rw [hV] at Sp
  have Sp := Sp.new hx4 (oRd V.heap.size (byteF s) s.size) ⟨hsz4, hcl⟩ (fun q hq => by rw [List.mem_singleton.1 hq]; exact Nat.le_refl _)
  rw [← hV] at hcv
  have HSp := Lib.hid Sp
  obtain ⟨vb, hvb⟩ : ∃ vb, w3.heap.size = vb := ⟨_, rfl⟩
  have hvo : w3.heap.size + 1 = vb + 1 := by omega
  obtain ⟨sb, hsb⟩ : ∃ sb, V.heap.size = sb := ⟨_, rfl⟩
  have hsb2 : ((w3.alloc (.cells #[.pointer (some ⟨cb, 0, none⟩)] 40)).alloc (.cells #[.slice none 0 0] 42)).heap.size = sb := by rw [hV, hsb]
  rw [hsb, hvb] at HSp
  rw [hsb2] at hcv
  have HV := Lib.hid (⟨hvb, hvo, hsb, hsb2, hV⟩ : _ ∧ _ ∧ _ ∧ _ ∧ _)
  clear Sp S3 hx4 hcl hsz4 hvb hvo hsb hsb2 hV
  go_wp2_with fail
  rw [HV.out.1]
  refine (chunk_walk sb s.size cap n _ (by omega)).mono ?_
  rintro e w5 ⟨rfl, rfl⟩
  go_wp2_with fail
  have hz := HZ.out
  have HC2 := Lib.hid hc2
  clear hc2
  refine wp_range (gf := 25) (lb := #[.pointer (some ⟨W4.heap.size, 0, none⟩), .pointer (some ⟨W4.heap.size + 1, 0, none⟩)]) rfl (Go.Proofs.enters_of Try.func25 (by kernel_rfl) rfl) (chunk_iter sb n rows s.size cap W4.heap.size (W4.heap.size + 1) (by omega) hz.symm (by omega) hc1 HC2.out) (fun _ => rfl)
    (W4.heap.size + 2) (W4.heap.size + 3) (by simp) (by simp) (by simp) (by simp; omega) (fun W hx => ⟨hx.keep (heap_alloc_old _ (heap_alloc_at _)) (by simp), hx.keep (alloc2 _ _ _) (by simp)⟩)
    (fun pre W => ∃ F, Sep w W [Ob.room [W4.heap.size + 2, W4.heap.size + 3, W4.heap.size, W4.heap.size + 1], oRd sb (byteF s) s.size, oOut (vb + 1) F (pre.flatMap (fun j => tiffR false c b k (rwF (byteF s) n j) n)), Ob.one vb (.cells #[.pointer (some ⟨cb, 0, none⟩)] 40 (0, 0)), Ob.one cb (coderO bs n ab 0 n), oSl 5 1 (.slice (some ⟨ab, 0, none⟩) n n) n ((List.replicate n 0).map c8), Ob.one gb (.cells #[.int .i64 2, .int .i64 c, .int .i64 b, .int .i64 k] 23 (0, 0))]) (fun _ _ _ => False)
    (fun q A B' h hx => by obtain ⟨F, Sp⟩ := h; exact ⟨F, Sp.upd 0 (Ob.room [W4.heap.size + 2, W4.heap.size + 3, W4.heap.size, W4.heap.size + 1]) rfl (hx.mono (fun i _ hi => by simp at hi; show i ∈ [W4.heap.size + 2, W4.heap.size + 3, W4.heap.size, W4.heap.size + 1]; simp; omega)) (Fr.refl _ _) (fun k hk => Nat.lt_of_lt_of_le (Sp.get 0 rfl k hk) hx.size)⟩)
    (fun _ _ _ _ h _ => h)
    (fun W hx hw => by
      have hx' : Ext [] W4 W := (((Ext.refl _ W4).alloc _).alloc _).trans hx
      simp only [World.size_alloc] at hw
      exact ⟨_, HSp.out.new hx' (Ob.room [W4.heap.size + 2, W4.heap.size + 3, W4.heap.size, W4.heap.size + 1]) (fun k hk => by simp at hk; omega) (fun k hk => by simp [Ob.room] at hk ⊢; omega)⟩)
    (fun x => { tmps := #[.string s, .agg #[.int .i64 2, .int .i64 c, .int .i64 b, .int .i64 k], undef, .pointer (some ⟨gb, 0, none⟩), .string ⟨#[]⟩, .int .i64 0, .int .i64 0, .int .i64 n, .pointer (some ⟨vb, 0, none⟩), .pointer (some ⟨vb + 1, 0, none⟩), rowS sb n x, undef, .agg #[.int .i64 2, .int .i64 c, .int .i64 b, .int .i64 k], .int .i64 0, .int .i64 0, .bool false, undef, .agg #[.int .i64 2, .int .i64 c, .int .i64 b, .int .i64 k], .int .i64 n, .bool false, .pointer (some ⟨gb, 0, none⟩), .int .i64 2, .bool false, undef, .bool false, .string s, .int .i64 s.size, .int .i64 n, .int .i64 0, .bool false, .agg #[.int .i64 2, .int .i64 c, .int .i64 b, .int .i64 k], .pointer (some ⟨cb, 0, none⟩), .string s, .slice (some ⟨sb, 0, none⟩) s.size cap, .int .i64 n, .func (.func 25) #[] #[.pointer (some ⟨W4.heap.size, 0, none⟩), .pointer (some ⟨W4.heap.size + 1, 0, none⟩)], rowS sb n x, undef, undef, undef, undef, undef, undef, undef, undef, undef, undef, undef, undef, undef, undef, undef, undef, undef, undef, undef, undef, undef, undef, undef, undef, undef, undef, undef, undef], defers := [] }) ?assign ?body ?done ?stop
  case assign =>
    intro x W K hK
    clear hz HZ
    unfold encR
    gi_wp2_with fail
    exact hK
  case stop => exact fun _ _ _ _ _ _ h _ => h.elim
  case body =>
    rintro pre j post W hxs ⟨F, Sp⟩
    obtain ⟨hpre, hlen, hj⟩ := range_pre hxs
    have hjn : (j + 1) * n ≤ rows * n := Nat.mul_le_mul_right n hj
    rw [← hz, Nat.add_mul, Nat.one_mul] at hjn
    have hR : ∀ W', (oRd sb (byteF s) s.size).P W' → ∀ i, i < n → W'.cell? ⟨sb, j * n + i, none⟩ = some (c8 (rwF (byteF s) n j i)) := fun W' h i hi => h.2 (j * n + i) (by omega)
    have hout : (pre.flatMap (fun j => tiffR false c b k (rwF (byteF s) n j) n)).length ≤ 4194304 := by
      rw [hpre, flat_len _ n (fun j => tiffR_len _ _ _ _ _ _)]
      omega
    generalize hpl : pre.flatMap (fun j => tiffR false c b k (rwF (byteF s) n j) n) = out at Sp hout
    have Sp := keep_start Sp 0 rfl
    have HS := Lib.hid Sp
    have HPL := Lib.hid hpl
    have htw := fun W' h => HTF.out sb (j * n) n (rwF (byteF s) n j) W' (hR W' h)
    have hrow : (fun j => tiffR false c b k (rwF (byteF s) n j) n) j = tiffR false c b k (rwF (byteF s) n j) n := rfl
    have hrl := tiffR_len false c b k (rwF (byteF s) n j) n
    generalize tiffR false c b k (rwF (byteF s) n j) n = PR at htw hrow hrl
    obtain ⟨jn, hjn'⟩ : ∃ jn, j * n = jn := ⟨_, rfl⟩
    rw [hjn'] at htw
    have HTW := Lib.hid htw
    have HROW := Lib.hid hrow
    have HRL := Lib.hid hrl
    obtain ⟨v, hbv, _⟩ := Sp.get 2 rfl
    have hg : W.heap[gb]? = some (.cells #[.int .i64 2, .int .i64 c, .int .i64 b, .int .i64 k] 23 (0, 0)) := Sp.get 6 rfl
    have d0 : W.cell? ⟨gb, 0, none⟩ = _ := cellOf hg 0
    have hjj : rowS sb n j = .slice (some ⟨sb, jn, none⟩) n n := by unfold rowS; rw [hjn']
    rw [hjj]
    clear Sp hR hpl hlen htw hrow hrl hjn' hjn hjj hxs hpre hz HZ HSp HCW HRW HBW HV hmod hmod2 hcv HTF
    gi_wp2_with fail
    refine rnd_perm (C := fun w' => ∃ x : TwoW (vb + 1) (bo v) gb (.cells #[.int .i64 2, .int .i64 c, .int .i64 b, .int .i64 k] 23 (0, 0)), w' = x.w) [0, 1, 2] 4 (by kernel_rfl) (by kernel_rfl) (by kernel_rfl) (fun ⟨_, _, h⟩ => h) ⟨TwoW.mk W.drew hbv hg, rfl⟩ ?_
    haveI : Nonempty (TwoW (vb + 1) (bo v) gb (.cells #[.int .i64 2, .int .i64 c, .int .i64 b, .int .i64 k] 23 (0, 0))) := ⟨TwoW.mk W.drew hbv hg⟩
    have c0 : ∀ x : TwoW (vb + 1) (bo v) gb (.cells #[.int .i64 2, .int .i64 c, .int .i64 b, .int .i64 k] 23 (0, 0)), x.w.cell? ⟨vb + 1, 0, none⟩ = some v := fun x => cellOf x.h1 0
    have c1 : ∀ x : TwoW (vb + 1) (bo v) gb (.cells #[.int .i64 2, .int .i64 c, .int .i64 b, .int .i64 k] 23 (0, 0)), x.w.cell? ⟨gb, 0, none⟩ = some (.int .i64 2) := fun x => cellOf x.h2 0
    have c2 : ∀ x : TwoW (vb + 1) (bo v) gb (.cells #[.int .i64 2, .int .i64 c, .int .i64 b, .int .i64 k] 23 (0, 0)), x.w.cell? ⟨gb, 1, none⟩ = some (.int .i64 c) := fun x => cellOf x.h2 1
    have c3 : ∀ x : TwoW (vb + 1) (bo v) gb (.cells #[.int .i64 2, .int .i64 c, .int .i64 b, .int .i64 k] 23 (0, 0)), x.w.cell? ⟨gb, 2, none⟩ = some (.int .i64 b) := fun x => cellOf x.h2 2
    have c4 : ∀ x : TwoW (vb + 1) (bo v) gb (.cells #[.int .i64 2, .int .i64 c, .int .i64 b, .int .i64 k] 23 (0, 0)), x.w.cell? ⟨gb, 3, none⟩ = some (.int .i64 k) := fun x => cellOf x.h2 3
    simp only [pick, List.getElem?_toArray, List.getElem?_cons_zero, List.getElem?_cons_succ, List.drop_succ_cons, List.drop_zero]
    repeat (go_big_quiet_step (fail))
    refine wpQuiet_nil ?_
    clear c0 c1 c2 c3 c4 d0
    refine anyC_one (f := 0) (i := 3) (by kernel_rfl) (by decide) rfl rfl (fun K hK => ?_)
    go_wp2_with fail
    have HSD := Lib.hid (HS.out.quiet ((Ext.refl _ W).drew))
    refine (HTW.out _ (HSD.out.get 1 rfl)).mono ?_
    rintro e w8 ⟨g2, rfl, S8⟩
    have Sp := sep_join HSD.out S8
    have hb8 : w8.heap[vb + 1]? = some (bo v) := S8.ext.keep hbv (by simp)
    have hg8 : w8.heap[gb]? = some (.cells #[.int .i64 2, .int .i64 c, .int .i64 b, .int .i64 k] 23 (0, 0)) := S8.ext.keep hg (by simp)
    have hpl := HRL.out
    obtain ⟨g3, cap3, w9, hr9, hb9, hsz9, Sp9⟩ := out_append Sp 3 rfl hb8 42 (.slice (some ⟨g2, 0, none⟩) n n) PR (src_row (Sp.get 0 rfl)) (by omega) (by omega)
    rw [hpl] at hr9 Sp9
    have HS := Lib.hid (mid_store Sp9 3 rfl)
    have hf9 : w9.frozen? ⟨vb + 1, 0, none⟩ = false := freeOf hb9 0
    have hc9 : w9.cell? ⟨vb + 1, 0, none⟩ = some v := cellOf hb9 0
    refine hK _ _ ⟨TwoW.mk _ hb8 hg8, rfl⟩ ?_
    clear hK K Sp Sp9 hb9 hb8 hg8 hpl S8
    refine anyC_end (by kernel_rfl) ?_
    refine wpList_plain rfl (fun K hK => wp_append_run _ _ _ _ rfl rfl rfl hr9 (hK _ _ ?_))
    clear hK K hr9
    go_wp2_with fail
    refine NoPanic.normal ?_
    clear hc9 hf9
    gi_wp2_with fail
    have HE := keep_end HS.out 1 rfl
    have Sp := sep_tail HE.2
    refine ⟨HE.1, [vb + 1, g3], ?_⟩
    have e1 : (pre ++ [j]).flatMap (fun j => tiffR false c b k (rwF (byteF s) n j) n) = out ++ PR := by
      rw [List.flatMap_append, HPL.out]
      simp [HROW.out]
    rw [e1]
    exact Sp
  case done =>
    rintro W ⟨F, Sp⟩ hD
    obtain ⟨v, hbv, hown, hF, hne⟩ := Sp.get 2 rfl
    have d0 := cellOf hbv 0
    have hct := run_text hown
    have HS := Lib.hid Sp
    have hw4 := HSp.out.ext.size
    have HW4 := Lib.hid hw4
    clear Sp hbv hown hF hne hw4 hz HZ hmod hmod2 hcv
    go_wp2_with fail
    refine ⟨by simp, .inl ⟨_, _, rfl, run_takeDeferred hD, ?_⟩⟩
    refine ⟨_, results_tmp2 rfl _ _ _, rfl, ?_⟩
    exact HS.out.ext.trans' (Ext.putObj _ _ _) (fun k hk hkF => by simp at hkF; have := HW4.out; omega)
end Go.Proofs.Ytoiegmdlbcbgoaa.Pr
