/-
  The document's Table (chapter 7): New, Size, Write, Read walked.
-/
import Derived.Test.YtgjenpdppobpkaaHwF
import Derived.Test.YtgjenpdppobpkaaPkJ
import Derived.Test.YtgjenpdppobpkaaPkC
namespace Go.Proofs.Ytgjenpdppobpkaa.Hu
open Go.RowKit Bt

section
variable {w0 w : World} {L : List Ob}
theorem sRfGetL (i : Nat) {b : Nat} {F : List Nat} {s : ByteArray} {q n : Nat} (S : Sep w0 w L) (hL : L[i]? = some (oRf b F (allBits s false (8 * s.size)) q)) (hs : s.size ≤ 1048576) (hn : n ≤ 32) (ha : q + n ≤ 8 * s.size) :
    Calls Try.prog 51 #[.pointer (some ⟨b, 0, none⟩), .int .i64 n, .bool false] w fun e w' =>
      e = .returned (.tuple #[.int .u32 (getv s false q n), .int .i64 0]) ∧ Sep w0 w' (L.set i (oRf b F (allBits s false (8 * s.size)) (q + n))) :=
  (rfget_ok_lo b F (allBits s false (8 * s.size)) q n w (by rw [allBits_length]; omega) (allBits_bin s false (8 * s.size)) hn (by rw [allBits_length]; omega) (S.get i hL)).mono fun _ _ ⟨he, h, hx⟩ =>
    ⟨by rw [he, valOf_getv s false q _ n (fun k hk => allBits_getD s false _ _ (by omega))], S.upd i (oRf b F (allBits s false (8 * s.size)) (q + n)) hL hx (Fr.refl _ _) h⟩
theorem sRfGetMoreL (i : Nat) {b : Nat} {F : List Nat} {s : ByteArray} {q n : Nat} (S : Sep w0 w L) (hL : L[i]? = some (oRf b F (allBits s false (8 * s.size)) q)) (hs : s.size ≤ 1048576) (hq : q ≤ 8 * s.size) (hn : n ≤ 32) (ha : 8 * s.size < q + n) :
    Calls Try.prog 51 #[.pointer (some ⟨b, 0, none⟩), .int .i64 n, .bool false] w fun e w' => e = .returned (.tuple #[.int .u32 0, .int .i64 8]) ∧ Sep w0 w' L :=
  (rfget_more b F (allBits s false (8 * s.size)) q n false w (by rw [allBits_length]; omega) (by rw [allBits_length]; omega) hn (by rw [allBits_length]; omega) (S.get i hL)).mono fun _ _ ⟨he, hx⟩ => ⟨he, S.quiet hx⟩
theorem sRfPutL (i : Nat) {b : Nat} {F l : List Nat} {v n : Nat} (S : Sep w0 w L) (hL : L[i]? = some (oRw b F l)) (hl : l.length < 2 ^ 39) (hv : v < 2 ^ 32) (hn : n ≤ 32) (hvn : v < 2 ^ n) :
    Calls Try.prog 28 #[.pointer (some ⟨b, 0, none⟩), .int .u32 v, .int .i64 n, .bool false] w fun e w' => e = .returned (.int .i64 0) ∧ ∃ F', Sep w0 w' (L.set i (oRw b F' (l ++ bitsOf false v n))) :=
  (rfput_ok b F l v n false w hl hv hn hvn (S.get i hL)).mono fun _ _ ⟨he, F', h, hx, hf⟩ => ⟨he, F', S.upd i (oRw b F' (l ++ bitsOf false v n)) hL hx hf h⟩
end
/-- the document's table of the lengths l -/
def oDT (tb : Nat) (F : List Nat) (l : List Int) : Ob where
  F := F
  P := fun w => ∃ vl vc, w.heap[tb]? = some (.cells #[vl, vc] 83 (0, 0)) ∧ w.ownsRow 0 3 1 vl l.length (l.map iz) ∧ w.ownsRow 0 30 1 vc l.length ((codesN l).map u32v) ∧ F = tb :: (vl.ownBlock.toList ++ vc.ownBlock.toList)
  ok := fun h hx hS => by
    obtain ⟨vl, vc, hb, h1, h2, rfl⟩ := h
    exact ⟨vl, vc, hx.keep hb (hS tb (by simp)), ownsRow_ext h1 hx (fun g hg => hS g (by simp [hg])), ownsRow_ext h2 hx (fun g hg => hS g (by simp [hg])), rfl⟩
  lt := fun h => by
    obtain ⟨vl, vc, hb, h1, h2, rfl⟩ := h
    intro k hk
    rcases List.mem_cons.1 hk with rfl | hk
    · exact lt_of_block hb
    · rcases List.mem_append.1 hk with hk | hk
      · exact (h1.lt k (by simpa using hk)).2
      · exact (h2.lt k (by simpa using hk)).2
def NewDT (w : World) (l : List Int) (e : Ending) (w' : World) : Prop :=
  ∃ tb F, e = .returned (.tuple #[.pointer (some ⟨tb, 0, none⟩), .int .i64 0]) ∧ Ext [] w w' ∧ (oDT tb F l).P w' ∧ ∀ k ∈ F, w.heap.size ≤ k
set_option maxRecDepth 100000 in
set_option maxHeartbeats 4000000 in
theorem rnew_err (v : Value) (l : List Int) (w : World) (hv : IntsAt w v l) (hl : l.length ≤ 1048576) (he : codesE l ≠ 0) :
    Calls Try.prog 27 #[v] w fun e w' => e = .returned (.tuple #[.pointer none, .int .i64 (codesE l)]) ∧ Ext [] w w' := by
  have hc := rcodes_err v l w hv hl he
  obtain ⟨ao, cap, rfl, _⟩ := hv
  have hb : (codesE l != 0) = true := bne_iff_ne.2 he
  obtain ⟨c, hcc⟩ : ∃ c, codesE l = c := ⟨_, rfl⟩
  rw [hcc] at hc hb ⊢
  have HC := Lib.hid hc
  clear hc he hcc
  go_enter Try.func27, Try.ntmps27
  go_wp2_with fail
  refine HC.out.mono ?_
  clear HC
  rintro e w1 ⟨rfl, rfl⟩
  go_wp2_with fail
  exact bodyPost_ret (results_tmp2 rfl _ _ _) rfl ⟨rfl, Ext.refl _ _⟩
set_option maxRecDepth 100000 in
set_option maxHeartbeats 4000000 in
theorem rnew_walk (v : Value) (l : List Int) (w : World) (hv : IntsArg w v l) (he : codesE l = 0) : Calls Try.prog 27 #[v] w (NewDT w l) := by
  obtain ⟨hb, hk⟩ := codesE_zero he
  have hl2 := (bad_false hb).1
  have hc := rcodes_ok v l w hv.1 hb hk
  have HV := Lib.hid hv
  have HC := Lib.hid hc
  obtain ⟨_, ao, cap, rfl, hcap, hcm, hnil⟩ := hv
  have HN := Lib.hid (⟨hnil, hcap⟩ : _ ∧ _)
  clear hc hb hk he hcap hcm hnil
  go_enter Try.func27, Try.ntmps27
  go_wp2_with fail
  refine HC.out.mono ?_
  clear HC
  rintro e w1 ⟨vc, rfl, hx1, hp1, hn1⟩
  obtain ⟨v', w', hr, hx, hp, hn⟩ := copy_ints w1 ao cap l (HV.out.1.ext hx1) (by omega) HN.out.1 (fun h => by have := HN.out.1 h; have := HN.out.2; omega)
  obtain ⟨aoc, capc, rfl⟩ := own_slice hp1
  obtain ⟨aov, capv, rfl⟩ := own_slice hp
  have HR := Lib.hid hr
  have HX := Lib.hid (⟨hx1, hp1, hn1, hx, hp, hn⟩ : _ ∧ _ ∧ _ ∧ _ ∧ _ ∧ _)
  clear hr hx1 hp1 hn1 hx hp hn
  go_wp2_with (at_builtin; refine wpList_plain rfl (fun K9 hK9 => wp_append_run _ _ _ _ rfl rfl rfl (HR.out _) (hK9 _ _ ?_)))
  obtain ⟨hx1, hp1, hn1, hx, hp, hn⟩ := HX.out
  have hx3 : Ext [] w' (w'.alloc (.cells #[.slice aov l.length capv, .slice aoc l.length capc] 83)) := (Ext.refl [] w').alloc _
  refine bodyPost_ret (results_tmp2 rfl _ _ _) rfl ⟨w'.heap.size, _, rfl, (hx1.trans hx).trans hx3, ⟨_, _, heap_alloc_at _, row_keep hx3 hp, row_keep (hx.trans hx3) hp1, rfl⟩, fun k hk => ?_⟩
  have s1 := hx1.size
  have s2 := hx.size
  rcases List.mem_cons.1 hk with rfl | hk
  · omega
  · rcases List.mem_append.1 hk with hk | hk
    · have := hn k hk; omega
    · exact hn1 k hk
set_option maxRecDepth 100000 in
set_option maxHeartbeats 4000000 in
theorem rsize_walk (tb : Nat) (F : List Nat) (l : List Int) (s : Int) (w : World) (h : (oDT tb F l).P w) (hl : l.length ≤ 1048576) :
    Calls Try.prog 45 #[.pointer (some ⟨tb, 0, none⟩), .int .i64 s] w fun e w' => e = .returned (.int .i64 (sizeZ l s)) ∧ Ext [] w w' := by
  obtain ⟨vl, vc, hb, h1, h2, _⟩ := h
  obtain ⟨aol, capl, rfl⟩ := own_slice h1
  have c0' : w.cell? ⟨tb, 0, none⟩ = some (.slice aol l.length capl) := cellOf hb 0
  by_cases q0 : s < 0
  · have e : sizeZ l s = 0 := by unfold sizeZ; rw [if_pos (.inl q0)]
    rw [e]
    clear e h1 h2 hb
    go_enter Try.func45, Try.ntmps45
    go_wp2_with fail
    go_ret
    exact ⟨rfl, Ext.refl _ _⟩
  · by_cases q1 : (l.length : Int) ≤ s
    · have e : sizeZ l s = 0 := by unfold sizeZ; rw [if_pos (.inr q1)]
      rw [e]
      clear e h1 h2 hb
      go_enter Try.func45, Try.ntmps45
      go_wp2_with fail
      go_ret
      exact ⟨rfl, Ext.refl _ _⟩
    · obtain ⟨k, rfl⟩ : ∃ k : Nat, s = k := ⟨s.toNat, by omega⟩
      have hk : k < l.length := by omega
      obtain ⟨x, hx⟩ : ∃ x, l[k]? = some x := ⟨_, List.getElem?_eq_getElem hk⟩
      have e : sizeZ l k = x := by unfold sizeZ; rw [if_neg (by omega), Int.toNat_natCast, List.getD_eq_getElem?_getD, hx]; rfl
      rw [e]
      obtain ⟨g, cap, hv⟩ := own_at h1 (by omega)
      injection hv with hv1 _ hv2
      subst hv1 hv2
      have d0 : w.cell? ⟨g, k, none⟩ = some (iz x) := ownsRow_at h1 (by rw [List.getElem?_map, hx]; rfl)
      clear e h1 h2 hb hx
      go_enter Try.func45, Try.ntmps45
      go_wp2_with fail
      go_ret
      exact ⟨rfl, Ext.refl _ _⟩
set_option maxRecDepth 100000 in
set_option maxHeartbeats 8000000 in
theorem sDWrite (i j : Nat) (hij : i ≠ j) {w0 w : World} {L : List Ob} {tb : Nat} {F : List Nat} {l : List Int} {b : Nat} {Fw bl : List Nat} (s : Int) (S : Sep w0 w L) (hT : L[i]? = some (oDT tb F l)) (hW : L[j]? = some (oRw b Fw bl))
    (hl : l.length ≤ 288) (hr : ∀ x ∈ l, 0 ≤ x ∧ x ≤ 15) (hc : ∀ x ∈ codesN l, x < 65536) (hbl : bl.length < 2 ^ 38) :
    Calls Try.prog 29 #[.pointer (some ⟨tb, 0, none⟩), .pointer (some ⟨b, 0, none⟩), .int .i64 s] w fun e w' =>
      e = .returned (.int .i64 (if sizeZ l s = 0 then 2 else 0)) ∧ ∃ Fw', Sep w0 w' (L.set j (oRw b Fw' (bl ++ cbits ((codesN l).getD s.toNat 0) (sizeZ l s).toNat))) := by
  have HSZ := Lib.hid (fun (w : World) (h : (oDT tb F l).P w) => rsize_walk tb F l s w h (by omega))
  have HS := Lib.hid S
  have HT := Lib.hid hT
  have HW := Lib.hid hW
  have hlen : (codesN l).length = l.length := codesF_len l _
  by_cases h0 : sizeZ l s = 0
  · rw [h0]
    have e3 : bl ++ cbits ((codesN l).getD s.toNat 0) (0 : Int).toNat = bl := List.append_nil _
    rw [e3, if_pos rfl]
    have e2 := set_same hW
    have HE := Lib.hid e2
    clear S hT hW hc hr e2 e3
    have hz := HSZ.out
    rw [h0] at hz
    have HZ := Lib.hid hz
    clear hz HSZ h0
    go_enter Try.func29, Try.ntmps29
    go_wp2_with fail
    refine (HZ.out _ (HS.out.get i HT.out)).mono ?_
    clear HZ
    rintro e w1 ⟨rfl, hx1⟩
    have HX := Lib.hid hx1
    clear hx1
    go_wp2_with fail
    go_ret
    exact ⟨rfl, Fw, by rw [HE.out]; exact HS.out.quiet HX.out⟩
  · have hs1 : ¬ (s < 0 ∨ (l.length : Int) ≤ s) := fun h => h0 (by unfold sizeZ; rw [if_pos h])
    obtain ⟨k, rfl⟩ : ∃ k : Nat, s = k := ⟨s.toNat, by omega⟩
    have hk : k < l.length := by omega
    obtain ⟨x, hx⟩ : ∃ x, l[k]? = some x := ⟨_, List.getElem?_eq_getElem hk⟩
    have e : sizeZ l k = x := by unfold sizeZ; rw [if_neg hs1, Int.toNat_natCast, List.getD_eq_getElem?_getD, hx]; rfl
    have hxr := hr x (List.mem_of_getElem? hx)
    obtain ⟨n, rfl⟩ : ∃ n : Nat, x = n := ⟨x.toNat, by omega⟩
    obtain ⟨c, hck⟩ : ∃ c, (codesN l)[k]? = some c := ⟨_, List.getElem?_eq_getElem (by omega)⟩
    have hc2 := hc c (List.mem_of_getElem? hck)
    have e3 : (codesN l).getD k 0 = c := by rw [List.getD_eq_getElem?_getD, hck]; rfl
    rw [e] at h0 HSZ ⊢
    rw [Int.toNat_natCast, Int.toNat_natCast, e3]
    have hn0 : 0 < n := by omega
    have hn15 : n ≤ 15 := by omega
    rw [if_neg h0]
    obtain ⟨R, hR⟩ : ∃ R, bl ++ cbits c n = R := ⟨_, rfl⟩
    rw [hR]
    have hRl : R.length < 2 ^ 38 + 16 := by rw [← hR, List.length_append, cbits_len]; omega
    have HR := Lib.hid (⟨hR, hRl⟩ : _ ∧ _)
    have HCK := Lib.hid (fun (w : World) (h : (oDT tb F l).P w) => (by
      obtain ⟨vl, vc, hb, h1, h2, _⟩ := h
      obtain ⟨g, cap, rfl⟩ := own_at h2 (by omega)
      exact ⟨g, l.length, cap, cellOf hb 1, hk, ownsRow_at h2 (by rw [List.getElem?_map, hck]; rfl)⟩ : ∃ g n cap, w.cell? ⟨tb, 1, none⟩ = some (.slice (some ⟨g, 0, none⟩) n cap) ∧ k < n ∧ w.cell? ⟨g, k, none⟩ = some (u32v c)))
    have hnn : ¬ ((n : Int) = 0) := by omega
    have HN := Lib.hid hnn
    have hnb : ((n : Int) == 0) = false := beq_eq_false_iff_ne.2 hnn
    clear S hT hW hc hr e e3 hx hck hs1 hlen hxr hR hRl h0 hnn
    go_enter Try.func29, Try.ntmps29
    go_wp2_with fail
    refine (HSZ.out _ (HS.out.get i HT.out)).mono ?_
    clear HSZ
    rintro e w1 ⟨rfl, hx1⟩
    have HS := Lib.hid (HS.out.quiet hx1)
    clear hx1
    go_wp2_with fail
    clear hnb
    go_loopg [8] n (fun g iv wr => ∃ (x : Int) (Fw' bl' : List Nat), x = (g : Int) - 1 ∧ g ≤ n ∧ iv = .int .i64 x ∧ bl' ++ cbits c g = R ∧ Sep w0 wr (L.set j (oRw b Fw' bl')))
    case atStart => exact ⟨_, Fw, bl, rfl, Nat.le_refl _, by go_num, HR.out.1, by rw [set_same HW.out]; exact HS.out⟩
    case round =>
      clear HS
      obtain ⟨x, Fw', bl', hx, hgn, rfl, hR, S⟩ := hrel
      cases gk with
      | zero =>
        obtain rfl : x = -1 := by omega
        clear hx hgn
        have HF := Lib.hid (⟨by rw [cbits, List.append_nil] at hR; exact hR, S⟩ : bl' = R ∧ Sep w0 wr (L.set j (oRw b Fw' bl')))
        clear hR S
        go_wp2_with fail
        go_ret
        exact ⟨by first | rfl | simp, Fw', by have h := HF.out.2; rw [HF.out.1] at h; exact h⟩
      | succ m =>
        obtain rfl : x = (m : Int) := by omega
        clear hx
        obtain ⟨g, n2, cap, c1, hkn, c2⟩ := HCK.out wr (S.get i (set_get hij HT.out))
        have hbd : bl'.length < 2 ^ 39 := by
          have h1 := HR.out.2
          rw [← hR, List.length_append] at h1
          omega
        rw [cbits] at hR
        have hp : c / 2 ^ m < 65536 := Nat.lt_of_le_of_lt (Nat.div_le_self _ _) hc2
        have h16 := u32_and_one (c / 2 ^ m) (by omega)
        obtain ⟨q, hq⟩ : ∃ q, c / 2 ^ m % 2 = q := ⟨_, rfl⟩
        rw [hq] at hR h16
        rw [show ((c / 2 ^ m : Nat) : Int) = (c : Int) / 2 ^ m from by push_cast; rfl] at h16
        have hq1 : q ≤ 1 := by omega
        have HF := Lib.hid (⟨hR, S, hbd, hq1⟩ : _ ∧ _ ∧ _ ∧ _)
        clear hR S hbd hp hq hq1
        go_wp2_with fail
        refine (sRfPutL j (n := 1) (v := q) HF.out.2.1 (set_self HW.out) HF.out.2.2.1 (by have := HF.out.2.2.2; omega) (by omega) (by have := HF.out.2.2.2; omega)).mono ?_
        rintro e w9 ⟨rfl, Fw2, S⟩
        rw [List.set_set, bitsOf_one false q HF.out.2.2.2] at S
        have HS := Lib.hid S
        clear S
        go_wp2_with fail
        go_roundg m
        case measure => omega
        case rel => exact ⟨_, Fw2, bl' ++ [q], rfl, by omega, by go_num, by rw [← List.append_cons]; exact HF.out.1, HS.out⟩
theorem fnd_here (l : List Int) (n code i : Nat) (hi : i < l.length) (h1 : ∀ j, j < i → ¬ (l.getD j 0 = (n : Int) ∧ (codesN l).getD j 0 = code)) (h2 : l.getD i 0 = (n : Int) ∧ (codesN l).getD i 0 = code) : fndD l n code = some i := by
  unfold fndD
  rw [List.find?_range_eq_some]
  exact ⟨decide_eq_true h2, List.mem_range.2 hi, fun j hj => by rw [decide_eq_false (h1 j hj)]; rfl⟩
theorem fnd_not (l : List Int) (n code : Nat) (h1 : ∀ j, j < l.length → ¬ (l.getD j 0 = (n : Int) ∧ (codesN l).getD j 0 = code)) : fndD l n code = none := by
  unfold fndD
  rw [List.find?_eq_none]
  intro j hj h
  exact h1 j (List.mem_range.1 hj) (of_decide_eq_true h)
set_option maxRecDepth 100000 in
set_option maxHeartbeats 16000000 in
theorem sDRead (i j : Nat) (hij : i ≠ j) {w0 w : World} {L : List Ob} {tb : Nat} {F : List Nat} {l : List Int} {b : Nat} {Fr' : List Nat} {t : ByteArray} {p0 : Nat} (S : Sep w0 w L) (hT : L[i]? = some (oDT tb F l)) (hR : L[j]? = some (oRf b Fr' (allBits t false (8 * t.size)) p0))
    (hl : l.length ≤ 288) (ht : t.size ≤ 1048576) (hp0 : p0 ≤ 8 * t.size) :
    Calls Try.prog 70 #[.pointer (some ⟨tb, 0, none⟩), .pointer (some ⟨b, 0, none⟩)] w fun e w' =>
      e = .returned (.tuple #[.int .i64 (readN l (bit t false) (8 * t.size) p0).1, .int .i64 (readN l (bit t false) (8 * t.size) p0).2.1]) ∧ Sep w0 w' (L.set j (oRf b Fr' (allBits t false (8 * t.size)) (readN l (bit t false) (8 * t.size) p0).2.2)) := by
  obtain ⟨R, hRR⟩ : ∃ R, readN l (bit t false) (8 * t.size) p0 = R := ⟨_, rfl⟩
  rw [hRR]
  rw [read_doc] at hRR
  have hlen : (codesN l).length = l.length := codesF_len l _
  have HTAB := Lib.hid (fun (w : World) (h : (oDT tb F l).P w) => (by
      obtain ⟨vl, vc, hb, h1, h2, _⟩ := h
      obtain ⟨aol, capl, rfl⟩ := own_slice h1
      obtain ⟨aoc, capc, rfl⟩ := own_slice h2
      refine ⟨aol, capl, aoc, capc, cellOf hb 0, cellOf hb 1, fun k hk => ?_⟩
      obtain ⟨g, cap, e1⟩ := own_at h1 (by omega)
      obtain ⟨g2, cap2, e2⟩ := own_at h2 (by omega)
      injection e1 with e1 _ e3
      injection e2 with e2 _ e4
      subst e1 e2 e3 e4
      exact ⟨g, g2, rfl, rfl, ownsRow_at h1 (by rw [List.getElem?_map, List.getElem?_eq_getElem hk, List.getD_eq_getElem?_getD, List.getElem?_eq_getElem hk]; rfl),
        ownsRow_at h2 (by rw [List.getElem?_map, List.getElem?_eq_getElem (by omega), List.getD_eq_getElem?_getD, List.getElem?_eq_getElem (by omega)]; rfl)⟩ :
      ∃ aol capl aoc capc, w.cell? ⟨tb, 0, none⟩ = some (.slice aol l.length capl) ∧ w.cell? ⟨tb, 1, none⟩ = some (.slice aoc l.length capc) ∧
        ∀ k, k < l.length → ∃ g g2, aol = some ⟨g, 0, none⟩ ∧ aoc = some ⟨g2, 0, none⟩ ∧ w.cell? ⟨g, k, none⟩ = some (iz (l.getD k 0)) ∧ w.cell? ⟨g2, k, none⟩ = some (u32v ((codesN l).getD k 0))))
  have HT := Lib.hid hT
  have HR := Lib.hid hR
  have HS := Lib.hid S
  have H0 := Lib.hid hRR
  clear hT hR S hRR hlen
  have hS0 : L.set j (oRf b Fr' (allBits t false (8 * t.size)) p0) = L := set_same HR.out
  have HS0 := Lib.hid hS0
  clear hS0
  go_enter Try.func70, Try.ntmps70
  go_wp2_with fail
  go_loopg [6, 7] 15 (fun g cv kv wr => ∃ k cc p : Nat, g + k = 16 ∧ 1 ≤ k ∧ cv = .int .u32 cc ∧ kv = .int .i64 k ∧ cc < 2 ^ (k - 1) ∧ p ≤ 8 * t.size ∧ rdD l (bit t false) (8 * t.size) g k cc p = R ∧ Sep w0 wr (L.set j (oRf b Fr' (allBits t false (8 * t.size)) p)))
  case atStart => exact ⟨1, 0, p0, rfl, by omega, rfl, rfl, by decide, hp0, H0.out, by rw [HS0.out]; exact HS.out⟩
  case round =>
    clear HS HS0 H0 hp0
    obtain ⟨k, cc, p, hgk, hk1, rfl, rfl, hc2, hp, hrd, S⟩ := hrel
    have HS := Lib.hid S
    have HQ := Lib.hid (⟨hc2, hrd⟩ : _ ∧ _)
    clear S hc2 hrd
    cases gk with
    | zero =>
      obtain rfl : k = 16 := by omega
      go_wp2_with fail
      have hrd := HQ.out.2
      rw [rdD] at hrd
      subst hrd
      refine bodyPost_ret (results_tmp2 rfl _ _ _) rfl ⟨rfl, HS.out⟩
    | succ g =>
      have hk15 : k ≤ 15 := by omega
      have hk15' : (k : Int) ≤ 15 := by omega
      go_wp2_with fail
      clear hk15'
      by_cases hpt : p < 8 * t.size
      · refine (sRfGetL j (n := 1) HS.out (set_self HR.out) ht (by omega) (by omega)).mono ?_
        rintro e w9 ⟨rfl, S⟩
        rw [getv_one]
        rw [List.set_set] at S
        have hb1 := bit_le t false p
        have hrd := HQ.out.2
        rw [rdD, if_pos hpt] at hrd
        obtain ⟨u, hu⟩ : ∃ u, bit t false p = u := ⟨_, rfl⟩
        rw [hu] at hrd hb1 ⊢
        have hc2 := HQ.out.1
        have hp2 : 2 ^ (k - 1) ≤ 2 ^ 14 := Nat.pow_le_pow_right (by omega) (by omega)
        have hcb : cc < 16384 := by omega
        obtain ⟨code, hcode⟩ : ∃ code, 2 * cc + u = code := ⟨_, rfl⟩
        rw [hcode] at hrd
        have hcode2 : (cc : Int) * 2 + (u : Int) = (code : Int) := by omega
        have hcl : code < 32768 := by omega
        obtain ⟨aol, capl, aoc, capc, c0, c1, hcell⟩ := HTAB.out w9 (S.get i (set_get hij HT.out))
        have HF := Lib.hid (⟨hrd, S, hc2, hcode, hcell⟩ : _ ∧ _ ∧ _ ∧ _ ∧ _)
        clear hrd S hc2 hcode hcell hp2 hu HS HQ
        go_wp2_with fail
        clear hcode2
        obtain ⟨G, hG⟩ : ∃ G, g = G := ⟨_, rfl⟩
        subst hG
        go_loopg [10] l.length (fun g2 iv wr2 => ∃ i2 : Nat, g2 + i2 = l.length ∧ iv = .int .i64 i2 ∧ (∀ q, q < i2 → ¬ (l.getD q 0 = (k : Int) ∧ (codesN l).getD q 0 = code)) ∧ w9 = wr2)
        case atStart => exact ⟨0, by omega, rfl, fun q hq => by omega, rfl⟩
        case round =>
          obtain ⟨i2, hi2, rfl, hno, rfl⟩ := hrel
          have HNO := Lib.hid hno
          clear hno
          by_cases hlt : i2 < l.length
          · obtain ⟨g5, g6, rfl, rfl, d0, d1⟩ := HF.out.2.2.2.2 i2 hlt
            obtain ⟨x, hx⟩ : ∃ x, l.getD i2 0 = x := ⟨_, rfl⟩
            obtain ⟨y, hy⟩ : ∃ y, (codesN l).getD i2 0 = y := ⟨_, rfl⟩
            rw [hx] at d0
            rw [hy] at d1
            have HXY := Lib.hid (⟨hx, hy⟩ : _ ∧ _)
            clear hx hy
            have hlt' : (i2 : Int) < (l.length : Int) := by omega
            by_cases hxk : x = (k : Int)
            · subst hxk
              by_cases hyc : y = code
              · subst hyc
                have hf := fnd_here l k y i2 hlt HNO.out HXY.out
                have hrd := HF.out.1
                rw [hf] at hrd
                have HRD := Lib.hid hrd
                clear hf hrd
                go_wp2_with fail
                have hrd := HRD.out
                subst hrd
                refine bodyPost_ret (results_tmp2 rfl _ _ _) rfl ⟨rfl, HF.out.2.1⟩
              · have j1 : (y == code) = false := beq_eq_false_iff_ne.2 hyc
                have j2 : ((y : Int) == (code : Int)) = false := beq_eq_false_iff_ne.2 (by omega)
                have HNO2 := Lib.hid (fun q hq => by
                  by_cases hqi : q = i2
                  · subst hqi
                    rintro ⟨_, h2⟩
                    rw [HXY.out.2] at h2
                    exact hyc h2
                  · exact HNO.out q (by omega) : ∀ q, q < i2 + 1 → ¬ (l.getD q 0 = (k : Int) ∧ (codesN l).getD q 0 = code))
                clear hyc
                go_wp2_with fail
                go_roundg (l.length - (i2 + 1))
                case measure => omega
                case rel => exact ⟨i2 + 1, by omega, by go_num, HNO2.out, rfl⟩
            · have j1 : (x == (k : Int)) = false := beq_eq_false_iff_ne.2 hxk
              have HNO2 := Lib.hid (fun q hq => by
                by_cases hqi : q = i2
                · subst hqi
                  rintro ⟨h2, _⟩
                  rw [HXY.out.1] at h2
                  exact hxk h2
                · exact HNO.out q (by omega) : ∀ q, q < i2 + 1 → ¬ (l.getD q 0 = (k : Int) ∧ (codesN l).getD q 0 = code))
              clear hxk
              go_wp2_with fail
              go_roundg (l.length - (i2 + 1))
              case measure => omega
              case rel => exact ⟨i2 + 1, by omega, by go_num, HNO2.out, rfl⟩
          · obtain rfl : i2 = l.length := by omega
            have hf := fnd_not l k code HNO.out
            have hrd := HF.out.1
            rw [hf] at hrd
            have HRD := Lib.hid hrd
            clear hf hrd
            go_wp2_with fail
            go_roundg g
            case measure => omega
            case rel =>
              refine ⟨k + 1, code, p + 1, by omega, by omega, by go_num, by go_num, ?_, by omega, HRD.out, HF.out.2.1⟩
              have e : 2 ^ (k + 1 - 1) = 2 * 2 ^ (k - 1) := by
                rw [show k + 1 - 1 = (k - 1) + 1 by omega, Nat.pow_succ, Nat.mul_comm]
              have h1 := HF.out.2.2.1
              have h2 := HF.out.2.2.2.1
              rw [e]
              omega
      · obtain rfl : p = 8 * t.size := by omega
        refine (sRfGetMoreL j (n := 1) HS.out (set_self HR.out) ht (by omega) (by omega) (by omega)).mono ?_
        rintro e w9 ⟨rfl, S⟩
        have HS := Lib.hid S
        clear S
        go_wp2_with fail
        have hrd := HQ.out.2
        rw [rdD, if_neg (by omega)] at hrd
        subst hrd
        refine bodyPost_ret (results_tmp2 rfl _ _ _) rfl ⟨rfl, HS.out⟩
end Go.Proofs.Ytgjenpdppobpkaa.Hu
