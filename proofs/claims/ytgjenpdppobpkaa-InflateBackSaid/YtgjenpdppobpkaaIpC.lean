/-
  inflate: the document's run in memory; fail, get, put, symbol walked.
-/
import Derived.Test.YtgjenpdppobpkaaIpB
namespace Go.Proofs.Ytgjenpdppobpkaa.If
open Go.RowKit Bt Hu

def runD (rb : Nat) (v : Value) (B : Nat) (e : Int) : Obj := .cells #[.pointer (some ⟨rb, 0, none⟩), v, .int .i64 B, .int .i64 e] 72
/-- block ub is the document's run, but for its reader, which is block rb -/
def oDR (ub rb : Nat) (F : List Nat) (B : Nat) (out : List Nat) (e : Int) : Ob where
  F := F
  P := fun w => ∃ v, w.heap[ub]? = some (runD rb v B e) ∧ w.ownsRow 0 5 1 v out.length (out.map b8) ∧ F = ub :: v.ownBlock.toList ∧ v.ownBlock ≠ some ub
  ok := fun h hx hS => by
    obtain ⟨v, h1, h2, rfl, h4⟩ := h
    exact ⟨v, hx.keep h1 (hS ub (by simp)), ownsRow_ext h2 hx (fun g hg => hS g (by simp [hg])), rfl, h4⟩
  lt := fun h => by
    obtain ⟨v, h1, h2, rfl, _⟩ := h
    intro k hk
    rcases List.mem_cons.1 hk with rfl | hk
    · exact lt_of_block h1
    · exact (h2.lt k (by simpa using hk)).2
/-- the run and its reader, and other objects L -/
def DS (w0 w : World) (ub rb : Nat) (Fr' : List Nat) (s : ByteArray) (B : Nat) (t : St) (L : List Ob) : Prop :=
  t.p ≤ 8 * s.size ∧ ∃ F, Sep w0 w (oRf rb Fr' (allBits s false (8 * s.size)) t.p :: oDR ub rb F B t.out t.e :: L)
section
variable {w0 w : World} {ub rb : Nat} {Fr' : List Nat} {s : ByteArray} {B : Nat} {t : St} {L : List Ob}
theorem DS.cells (h : DS w0 w ub rb Fr' s B t L) :
    ∃ ao cap, w.cell? ⟨ub, 0, none⟩ = some (.pointer (some ⟨rb, 0, none⟩)) ∧ w.cell? ⟨ub, 1, none⟩ = some (.slice ao t.out.length cap) ∧ w.cell? ⟨ub, 2, none⟩ = some (.int .i64 B) ∧ w.cell? ⟨ub, 3, none⟩ = some (.int .i64 t.e) ∧ w.frozen? ⟨ub, 1, none⟩ = false ∧ w.frozen? ⟨ub, 3, none⟩ = false ∧ w.ownsRow 0 5 1 (.slice ao t.out.length cap) t.out.length (t.out.map b8) := by
  obtain ⟨_, F, S⟩ := h
  obtain ⟨v, h1, h2, _, _⟩ := S.get 1 rfl
  obtain ⟨ao, cap, rfl⟩ := own_slice h2
  exact ⟨ao, cap, cellOf h1 0, cellOf h1 1, cellOf h1 2, cellOf h1 3, freeOf h1 1, freeOf h1 3, h2⟩
theorem DS.quiet {w' : World} (h : DS w0 w ub rb Fr' s B t L) (hx : Ext [] w w') : DS w0 w' ub rb Fr' s B t L := by
  obtain ⟨hp, F, S⟩ := h
  exact ⟨hp, F, S.quiet hx⟩
theorem DS.ext (h : DS w0 w ub rb Fr' s B t L) : Ext [] w0 w := by
  obtain ⟨_, F, S⟩ := h
  exact S.ext
theorem DS.obj (h : DS w0 w ub rb Fr' s B t L) {i : Nat} {o : Ob} (hi : L[i]? = some o) : o.P w := by
  obtain ⟨_, F, S⟩ := h
  exact S.get (i + 2) (by simpa using hi)
theorem DS.e_eq {t' : St} (h : DS w0 w ub rb Fr' s B t L) (e : t = t') : DS w0 w ub rb Fr' s B t' L := e ▸ h
set_option maxRecDepth 100000 in
set_option maxHeartbeats 4000000 in
theorem d_fail (x : Int) (S : DS w0 w ub rb Fr' s B t L) :
    Calls Try.prog 43 #[.pointer (some ⟨ub, 0, none⟩), .int .i64 x] w fun e w' => e = .returned (.tuple #[]) ∧ DS w0 w' ub rb Fr' s B (dfail x t) L := by
  obtain ⟨ao, cap, _, _, _, c3, _, f3, _⟩ := S.cells
  by_cases h0 : t.e = 0
  · have hR : dfail x t = ⟨t.p, t.out, x⟩ := if_pos h0
    obtain ⟨hp, F, S⟩ := S
    obtain ⟨v, h1, h2, hF, h4⟩ := S.get 1 rfl
    have hfin : (oDR ub rb F B t.out x).P (w.setCell ⟨ub, 3, none⟩ (.int .i64 x)) := by
      refine ⟨v, ?_, ownsRow_setCell_other h2 (fun e => h4 (by simpa using e)) _, hF, h4⟩
      rw [heap_setCell_same h1]
      simp [runD]
    have hu : ub ∈ F := by rw [hF]; simp
    have HF := Lib.hid (S.upd 1 (oDR ub rb F B t.out x) rfl ((Ext.refl F w).setCell ⟨ub, 3, none⟩ (.int .i64 x) (.inl hu)) (Fr.refl _ _) hfin)
    have HR := Lib.hid (⟨hR, hp⟩ : _ ∧ _)
    rw [h0] at c3
    clear S h1 h2 hF h4 hfin hu hR h0
    go_enter Try.func43, Try.ntmps43
    go_wp2_with fail
    go_end0
    refine ⟨rfl, ?_⟩
    rw [HR.out.1]
    exact ⟨HR.out.2, F, HF.out⟩
  · have hb : (t.e == 0) = false := beq_eq_false_iff_ne.2 h0
    have HS := Lib.hid (show DS w0 w ub rb Fr' s B (dfail x t) L by rw [dfail_dead h0]; exact S)
    generalize t.e = te at *
    clear S h0
    go_enter Try.func43, Try.ntmps43
    go_wp2_with fail
    go_end0
    exact ⟨rfl, HS.out⟩
theorem dget_lt (n : Nat) (hn : n ≤ 16) (t : St) : (dget s n t).1 < 65536 := by
  unfold dget
  split
  · exact Nat.zero_lt_succ _
  · split
    · exact getv8 s _ n hn
    · exact Nat.zero_lt_succ _
theorem dget_lt2 (n : Nat) (t : St) : (dget s n t).1 < 2 ^ n := by
  have : 0 < 2 ^ n := Nat.two_pow_pos n
  unfold dget
  split
  · exact this
  · split
    · exact getv_lt s false _ n
    · exact this
set_option maxRecDepth 100000 in
set_option maxHeartbeats 4000000 in
theorem d_get (n : Nat) (hn : n ≤ 16) (hs : s.size ≤ 1048576) (S : DS w0 w ub rb Fr' s B t L) :
    Calls Try.prog 39 #[.pointer (some ⟨ub, 0, none⟩), .int .i64 n] w fun e w' => e = .returned (.int .i64 (dget s n t).1) ∧ DS w0 w' ub rb Fr' s B (dget s n t).2 L := by
  obtain ⟨ao, cap, c0, _, _, c3, _, _, _⟩ := S.cells
  have HS := Lib.hid S
  clear S
  by_cases h0 : t.e = 0
  · have hb : (t.e != 0) = false := by rw [h0]; rfl
    by_cases hm : t.p + n ≤ 8 * s.size
    · have hR : dget s n t = (getv s false t.p n, ⟨t.p + n, t.out, 0⟩) := by unfold dget; rw [if_neg (fun h => h h0), if_pos hm]
      rw [hR]
      have hv := getv8 s t.p n hn
      have HG := Lib.hid ((by
        obtain ⟨hp, F, S⟩ := HS.out
        refine (sRfGetL 0 (n := n) S rfl hs (by omega) hm).mono ?_
        rintro e w' ⟨rfl, S⟩
        refine ⟨rfl, hm, F, ?_⟩
        rw [h0] at S
        exact S) : Calls Try.prog 51 #[.pointer (some ⟨rb, 0, none⟩), .int .i64 n, .bool false] w fun e w' => e = .returned (.tuple #[.int .u32 (getv s false t.p n), .int .i64 0]) ∧ DS w0 w' ub rb Fr' s B ⟨t.p + n, t.out, 0⟩ L)
      generalize getv s false t.p n = v at *
      generalize t.e = te at *
      subst h0
      clear hR HS hb hm
      go_enter Try.func39, Try.ntmps39
      go_wp2_with fail
      refine HG.out.mono ?_
      rintro e w1 ⟨rfl, S⟩
      have HS := Lib.hid S
      clear S HG c0 c3
      go_wp2_with fail
      go_ret
      exact ⟨rfl, HS.out⟩
    · have hR : dget s n t = (0, ⟨t.p, t.out, 8⟩) := by unfold dget; rw [if_neg (fun h => h h0), if_neg hm]
      rw [hR]
      have HG := Lib.hid ((by
        obtain ⟨hp, F, S⟩ := HS.out
        refine (sRfGetMoreL 0 (n := n) S rfl hs hp (by omega) (by omega)).mono ?_
        rintro e w' ⟨rfl, S⟩
        exact ⟨rfl, hp, F, S⟩) : Calls Try.prog 51 #[.pointer (some ⟨rb, 0, none⟩), .int .i64 n, .bool false] w fun e w' => e = .returned (.tuple #[.int .u32 0, .int .i64 8]) ∧ DS w0 w' ub rb Fr' s B t L)
      have HQ := Lib.hid (show dfail 8 t = ⟨t.p, t.out, 8⟩ from if_pos h0)
      have HF := Lib.hid (fun w1 (S : DS w0 w1 ub rb Fr' s B t L) => d_fail 8 S)
      rw [h0] at c3
      clear hR HS hb hm h0
      go_enter Try.func39, Try.ntmps39
      go_wp2_with fail
      refine HG.out.mono ?_
      rintro e w1 ⟨rfl, S⟩
      have HS := Lib.hid S
      clear S HG c0 c3
      go_wp2_with fail
      refine (HF.out w1 HS.out).mono ?_
      rintro e w2 ⟨rfl, S⟩
      rw [HQ.out] at S
      have HS := Lib.hid S
      clear S HF
      go_wp2_with fail
      go_ret
      exact ⟨rfl, HS.out⟩
  · have hb : (t.e != 0) = true := bne_iff_ne.2 h0
    rw [dget_dead h0]
    generalize t.e = te at *
    clear h0
    go_enter Try.func39, Try.ntmps39
    go_wp2_with fail
    go_ret
    exact ⟨rfl, HS.out⟩
theorem rdD_zero (l : List Int) (bt : Nat → Nat) (N : Nat) : ∀ g k code p, (rdD l bt N g k code p).2.1 ≠ 0 → (rdD l bt N g k code p).1 = 0
  | 0, k, code, p, _ => rfl
  | g + 1, k, code, p, h => by
    rw [rdD] at h ⊢
    split at h
    · rename_i h1
      rw [if_pos h1]
      cases hf : fndD l k (2 * code + bt p) with
      | some x => rw [hf] at h; exact absurd rfl h
      | none => rw [hf] at h; exact rdD_zero l bt N g _ _ _ h
    · rename_i h1
      rw [if_neg h1]
theorem dsym_zero (D : List Int) (t : St) (h : (dsym s D t).2.e ≠ 0) : (dsym s D t).1 = 0 := by
  unfold dsym at h ⊢
  by_cases h0 : t.e ≠ 0
  · rw [if_pos h0]
  · rw [if_neg h0] at h ⊢
    simp only at h ⊢
    rw [read_doc] at h ⊢
    exact rdD_zero _ _ _ _ _ _ _ h
theorem rdD_len (l : List Int) (bt : Nat → Nat) (N : Nat) : ∀ g k code p, (rdD l bt N g k code p).1 < l.length ∨ (rdD l bt N g k code p).1 = 0
  | 0, k, code, p => .inr rfl
  | g + 1, k, code, p => by
    rw [rdD]
    split
    · cases hf : fndD l k (2 * code + bt p) with
      | some x =>
        refine .inl ?_
        unfold fndD at hf
        exact List.mem_range.1 (List.mem_of_find?_eq_some hf)
      | none => exact rdD_len l bt N g _ _ _
    · exact .inr rfl
theorem dsym_lt (D : List Int) (t : St) : (dsym s D t).1 < D.length ∨ (dsym s D t).1 = 0 := by
  unfold dsym
  split
  · exact .inr rfl
  · simp only
    rw [read_doc]
    exact rdD_len _ _ _ _ _ _ _
theorem rdD_place (l : List Int) (bt : Nat → Nat) (N : Nat) : ∀ g k code p, p ≤ N → p ≤ (rdD l bt N g k code p).2.2 ∧ (rdD l bt N g k code p).2.2 ≤ N
  | 0, k, code, p, h => ⟨Nat.le_refl _, h⟩
  | g + 1, k, code, p, h => by
    rw [rdD]
    by_cases hp : p < N
    · rw [if_pos hp]
      split
      · exact ⟨Nat.le_succ p, hp⟩
      · have := rdD_place l bt N g (k + 1) (2 * code + bt p) (p + 1) (by omega)
        exact ⟨by omega, this.2⟩
    · rw [if_neg hp]
      exact ⟨Nat.le_refl _, h⟩
set_option maxRecDepth 100000 in
set_option maxHeartbeats 4000000 in
theorem d_sym (i : Nat) {tb : Nat} {Ft : List Nat} {D : List Int} (hT : L[i]? = some (oDT tb Ft D)) (hD : D.length ≤ 288) (hs : s.size ≤ 1048576) (S : DS w0 w ub rb Fr' s B t L) :
    Calls Try.prog 54 #[.pointer (some ⟨ub, 0, none⟩), .pointer (some ⟨tb, 0, none⟩)] w fun e w' => e = .returned (.int .i64 (dsym s D t).1) ∧ DS w0 w' ub rb Fr' s B (dsym s D t).2 L := by
  obtain ⟨ao, cap, c0, _, _, c3, _, _, _⟩ := S.cells
  have HS := Lib.hid S
  clear S
  by_cases h0 : t.e = 0
  · have hpl := rdD_place D (bit s false) (8 * s.size) 15 1 0 t.p HS.out.1
    rw [← read_doc] at hpl
    have HG := Lib.hid ((by
        obtain ⟨hp, F, S⟩ := HS.out
        refine (sDRead (i + 2) 0 (by omega) S (show _ = some (oDT tb Ft D) by simpa using hT) rfl hD hs hp).mono ?_
        rintro e w' ⟨rfl, S⟩
        refine ⟨rfl, hpl.2, F, ?_⟩
        rw [h0] at S
        exact S) : Calls Try.prog 70 #[.pointer (some ⟨tb, 0, none⟩), .pointer (some ⟨rb, 0, none⟩)] w fun e w' => e = .returned (.tuple #[.int .i64 (readN D (bit s false) (8 * s.size) t.p).1, .int .i64 (readN D (bit s false) (8 * s.size) t.p).2.1]) ∧ DS w0 w' ub rb Fr' s B ⟨(readN D (bit s false) (8 * s.size) t.p).2.2, t.out, 0⟩ L)
    have hR : dsym s D t = ((readN D (bit s false) (8 * s.size) t.p).1, ⟨(readN D (bit s false) (8 * s.size) t.p).2.2, t.out, (readN D (bit s false) (8 * s.size) t.p).2.1⟩) := if_neg (fun h => h h0)
    rw [hR]
    clear hR hpl
    generalize readN D (bit s false) (8 * s.size) t.p = R at *
    obtain ⟨r1, r2, r3⟩ := R
    simp only at HG ⊢
    rw [h0] at c3
    clear HS h0
    go_enter Try.func54, Try.ntmps54
    go_wp2_with fail
    refine HG.out.mono ?_
    rintro e w1 ⟨rfl, S⟩
    have HS := Lib.hid S
    clear S HG c0 c3
    by_cases hz : r2 = 0
    · subst hz
      go_wp2_with fail
      go_ret
      exact ⟨rfl, HS.out⟩
    · have hb : (r2 != 0) = true := bne_iff_ne.2 hz
      clear hz
      go_wp2_with fail
      refine (d_fail r2 HS.out).mono ?_
      rintro e w2 ⟨rfl, S⟩
      have HS := Lib.hid S
      clear S hb
      go_wp2_with fail
      go_ret
      exact ⟨rfl, HS.out⟩
  · have hb : (t.e != 0) = true := bne_iff_ne.2 h0
    rw [dsym_dead h0]
    generalize t.e = te at *
    clear h0
    go_enter Try.func54, Try.ntmps54
    go_wp2_with fail
    go_ret
    exact ⟨rfl, HS.out⟩
/-- a byte more -/
theorem DR.push {w W w1 : World} {ub rb : Nat} {B b : Nat} {e : Int} {out : List Nat} {v : Value} {O : Obj} {g cap2 : Nat} (h1 : w.heap[ub]? = some (runD rb v B e)) (h4 : v.ownBlock ≠ some ub) (hx : Ext [] w W)
    (hown1 : w1.ownsRow 0 5 1 (.slice (some ⟨g, 0, none⟩) (out.length + 1) cap2) (out.length + 1) (out.map b8 ++ [.int .u8 (b : Int)])) (hgrow : (W.alloc O).grownBy w1 v.ownBlock) (hat : v.ownBlock = some g ∨ g = W.heap.size + 1) :
    (oDR ub rb [ub, g] B (out ++ [b]) e).P (w1.setCell ⟨ub, 1, none⟩ (.slice (some ⟨g, 0, none⟩) (out.length + 1) cap2)) ∧ Ext (ub :: v.ownBlock.toList) w (w1.setCell ⟨ub, 1, none⟩ (.slice (some ⟨g, 0, none⟩) (out.length + 1) cap2)) ∧ Fr w (ub :: v.ownBlock.toList) [ub, g] := by
  have hb : W.heap[ub]? = some (runD rb v B e) := hx.keep h1 (by simp)
  obtain ⟨q1, q2, q3, q4, q5⟩ := push_field hb h4 hown1 hgrow hat 1
  refine ⟨⟨_, q1, ?_, rfl, fun e => q4 (by simpa [Value.ownBlock] using e)⟩, (hx.weak (S := ub :: v.ownBlock.toList)).trans q3, fun k hk => ?_⟩
  · rw [List.length_append, List.map_append]
    exact q2
  · rcases List.mem_cons.1 hk with rfl | hk
    · exact .inl (by simp)
    · obtain rfl : k = g := by simpa using hk
      rcases hat with h | h
      · exact .inl (by simp [h])
      · have := hx.size; exact .inr (by omega)
set_option maxRecDepth 100000 in
set_option maxHeartbeats 4000000 in
theorem d_put (b : Nat) (hB : B ≤ 1099511627776) (S : DS w0 w ub rb Fr' s B t L) :
    Calls Try.prog 53 #[.pointer (some ⟨ub, 0, none⟩), .int .u8 b] w fun e w' => e = .returned (.tuple #[]) ∧ DS w0 w' ub rb Fr' s B (dput B b t) L := by
  have HS := Lib.hid S
  clear S
  by_cases h0 : t.e = 0
  · obtain ⟨p, out, te⟩ := t
    obtain rfl : te = 0 := h0
    obtain ⟨i0, hif, hz0, hz1, hz2⟩ := info_parts infoByte
    obtain ⟨hp, F, S⟩ := HS.out
    obtain ⟨v, h1, h2, hF, h4⟩ := S.get 1 rfl
    simp only at h2
    obtain ⟨ao, cap, rfl⟩ := own_slice h2
    have c3 : w.cell? ⟨ub, 3, none⟩ = some (.int .i64 0) := cellOf h1 3
    have c1 : ∀ x : Ex w, x.w.cell? ⟨ub, 1, none⟩ = some (.slice ao out.length cap) := fun x => cellOf (x.heap h1) 1
    have c2 : ∀ x : Ex w, x.w.cell? ⟨ub, 2, none⟩ = some (.int .i64 B) := fun x => cellOf (x.heap h1) 2
    have HH := Lib.hid (⟨h1, h2, hF, h4, S, hp⟩ : _ ∧ _ ∧ _ ∧ _ ∧ _ ∧ _)
    clear h1 h2 hF h4 S
    by_cases hfull : B ≤ out.length
    · have HR := Lib.hid (show dput B b ⟨p, out, 0⟩ = dfail 3 ⟨p, out, 0⟩ from by unfold dput dfail; rw [live9, if_pos hfull, if_pos rfl])
      have hf' : (B : Int) ≤ (out.length : Int) := by omega
      go_enter Try.func53, Try.ntmps53
      go_wp2_with fail
      refine wp_region_ext (by kernel_rfl) (by kernel_rfl) ?_
      repeat (go_big_quiet_step (fail))
      refine wpQuiet_nil ?_
      clear c1 c2 c3
      rintro _ ⟨x, rfl⟩
      go_wp2_with fail
      refine (d_fail 3 (HS.out.quiet x.ext)).mono ?_
      rintro e w2 ⟨rfl, S⟩
      rw [← HR.out] at S
      have HS := Lib.hid S
      clear S
      go_wp2_with fail
      refine bodyPost_ret (results_none rfl _ _ _) rfl ?_
      exact ⟨rfl, HS.out⟩
    · have HR := Lib.hid (show dput B b ⟨p, out, 0⟩ = ⟨p, out ++ [b], 0⟩ from by unfold dput; rw [live9, if_neg hfull])
      have hf' : ¬ (B : Int) ≤ (out.length : Int) := by omega
      go_enter Try.func53, Try.ntmps53
      go_wp2_with fail
      refine wp_region_ext (by kernel_rfl) (by kernel_rfl) ?_
      repeat (go_big_quiet_step (fail))
      refine wpQuiet_nil ?_
      rintro _ ⟨x, rfl⟩
      have d1 := c1 x
      clear c1 c2 c3
      have hrow : x.w.ownsRow 0 5 1 (.slice ao out.length cap) out.length (out.map b8) := row_keep x.ext HH.out.2.1
      have hb : x.w.heap[ub]? = some (runD rb (.slice ao out.length cap) B 0) := x.ext.keep HH.out.1 (by simp)
      have HB := Lib.hid hb
      have HNE := Lib.hid HH.out.2.2.2.1
      clear hb
      obtain ⟨W, hW⟩ : ∃ W, x.w = W := ⟨_, rfl⟩
      have hxW : Ext [] w W := by rw [← hW]; exact x.ext
      rw [hW] at hrow d1 HB ⊢
      have HXW := Lib.hid hxW
      clear hW hxW x
      go_wp2_with (first | (at_builtin; refine wpList_append_lies _ rfl _ _ 26 rfl 0 5 i0 _ 1 1 Try.underlying26 hif hz0 hz1 hz2 rfl (by decide) (.slice ao out.length cap) out.length _ rfl (hrow.alloc _) ⟨W.heap.size, 0, none⟩ 1 1 [.int .u8 (b : Int)] rfl rfl (cell_one_new _ _ _) (by simp [Value.oneCell']) (by decide) (by unfold maxLen; omega) (by omega) (by omega) (W.heap.size + 1) (by simp) ?_; intro g cap2 w1 hown1 hgrow hat hlt; have k1 := grown_keep hgrow (heap_alloc_old _ HB.out) HNE.out; have k2 := freeOf k1 1; have k3 := cellOf k1 1))
      obtain ⟨h1, h2, hF, h4, S, hp⟩ := HH.out
      obtain ⟨q1, q2, q3⟩ := DR.push (out := out) (b := b) h1 h4 HXW.out hown1 hgrow hat
      go_end0
      rw [← hF] at q2 q3
      refine ⟨rfl, ?_⟩
      rw [HR.out]
      exact ⟨hp, _, S.upd 1 (oDR ub rb [ub, g] B (out ++ [b]) 0) rfl q2 q3 q1⟩
  · obtain ⟨ao, cap, c0, _, _, c3, _, _, _⟩ := HS.out.cells
    have hb : (t.e != 0) = true := bne_iff_ne.2 h0
    rw [dput_dead h0]
    generalize t.e = te at *
    clear h0
    go_enter Try.func53, Try.ntmps53
    go_wp2_with fail
    refine bodyPost_ret (results_none rfl _ _ _) rfl ?_
    exact ⟨rfl, HS.out⟩
end
end Go.Proofs.Ytgjenpdppobpkaa.If
