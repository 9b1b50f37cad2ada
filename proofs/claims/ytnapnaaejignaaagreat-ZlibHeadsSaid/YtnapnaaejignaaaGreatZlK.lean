/-
  kit.Turned walked.
-/
import Derived.Test.YtnapnaaejignaaaGreatZlH
import Derived.Lib.SlBytesRow
import Derived.Lib.ConvBytes
namespace Go.Proofs.YtnapnaaejignaaaGreat.De
open Go.RowKit Bt Hu If Mt

/-- bytes that are turned in place -/
def oTu (g : Nat) (f : Nat → Nat) (n : Nat) : Ob where
  F := [g]
  P := fun w => ∃ cs fr, w.heap[g]? = some (.cells cs 5 fr) ∧ (∀ j, j < n → cs[j]? = some (.int .u8 (f j : Nat))) ∧ n ≤ fr.1
  ok := fun h hx hS => by
    obtain ⟨cs, fr, h1, h2⟩ := h
    exact ⟨cs, fr, hx.keep h1 (hS g (by simp)), h2⟩
  lt := fun h k hk => by
    obtain ⟨cs, fr, h1, _⟩ := h
    rw [List.mem_singleton.1 hk]; exact lt_of_block h1
theorem oTu_cell {g : Nat} {f : Nat → Nat} {n : Nat} {w : World} (h : (oTu g f n).P w) (j : Nat) (hj : j < n) : w.cell? ⟨g, j, none⟩ = some (.int .u8 (f j : Nat)) := by
  obtain ⟨cs, fr, h1, h2, _⟩ := h
  rw [cellOf h1]; exact h2 j hj
theorem oTu_free {g : Nat} {f : Nat → Nat} {n : Nat} {w : World} (h : (oTu g f n).P w) (j : Nat) (hj : j < n) : w.frozen? ⟨g, j, none⟩ = false := by
  obtain ⟨cs, fr, h1, _, h3⟩ := h
  simp [World.frozen?, h1]
  omega
theorem oTu_store {g : Nat} {f : Nat → Nat} {n : Nat} {w : World} (h : (oTu g f n).P w) (q v : Nat) : (oTu g (fun j => if j = q then v else f j) n).P (w.setCell ⟨g, q, none⟩ (.int .u8 (v : Nat))) := by
  obtain ⟨cs, fr, h1, h2, h3⟩ := h
  refine ⟨_, fr, heap_setCell_same h1 _, fun j hj => ?_, h3⟩
  have hsz : j < cs.size := (Array.getElem?_eq_some_iff.1 (h2 j hj)).1
  rw [Array.getElem?_setIfInBounds]
  by_cases hjq : q = j
  · subst hjq
    rw [if_pos rfl, if_pos hsz]
    simp
  · rw [if_neg hjq, h2 j hj]
    simp [Ne.symm hjq]
theorem tu_start (x : ByteArray) (W : World) (hx : x.size ≤ 1048576) : ∃ W' cap, (convert 9 28 (.string x)).run Tryz.prog W = .ok (.slice (some ⟨W.heap.size, 0, none⟩) x.size cap) W' ∧ Ext [] W W' ∧ x.size ≤ cap ∧ cap ≤ maxLen ∧ (oTu W.heap.size (byteAt x) x.size).P W' := by
  refine ⟨Lib.bytesWorld W 5 x, grownCap W x.size 0 5, Lib.run_convert_string_bytes W 9 28 5 x Tryz.underlying9 Tryz.underlying28 Tryz.underlying5,
    ⟨rfl, rfl, rfl, by rw [Lib.bytesWorld_size]; omega, fun k hk _ => Lib.bytesWorld_at_old W _ x k hk⟩, grownCap_ge _ _ _ _, grownCap_le_maxLen _ _ _ _ (by unfold maxLen; omega), _, _, Lib.bytesWorld_at_new W _ x, fun j hj => ?_, ?_⟩
  · have h := Lib.bytesWorld_cell W 5 x j hj
    rw [cellOf (Lib.bytesWorld_at_new W 5 x)] at h
    rw [h]
    rfl
  · simp [Lib.bytesCells]
def bytesOf (f : Nat → Nat) (n : Nat) : ByteArray := txt ((List.range n).map f)
theorem bytesOf_size (f : Nat → Nat) (n : Nat) : (bytesOf f n).size = n := by
  unfold bytesOf
  rw [txt_size]
  simp
theorem bytesOf_at (f : Nat → Nat) (n i : Nat) (h : i < n) (hf : f i < 256) : byteAt (bytesOf f n) i = f i := by
  unfold bytesOf
  refine byteAt_txt _ i (f i) ?_ hf
  simp [h]
theorem tu_text {g n cap : Nat} {f : Nat → Nat} {w : World} (h : (oTu g f n).P w) (hf : ∀ j, j < n → f j < 256) : (convert 28 9 (.slice (some ⟨g, 0, none⟩) n cap)).run Tryz.prog w = .ok (.string (bytesOf f n)) w := by
  have := Lib.run_convert_whole (P := Tryz.prog) w 28 5 9 Tryz.underlying28 Tryz.underlying5 Tryz.underlying9 g 0 (bytesOf f n) (fun i hi => by
    rw [bytesOf_size] at hi
    rw [Nat.zero_add, oTu_cell h i hi, ← bytesOf_at f n i hi (hf i hi), byteAt_is _ i (by rw [bytesOf_size]; exact hi)]) cap
  rw [bytesOf_size] at this
  exact this
theorem xor_ne (x m : Nat) (hx : x < 256) (hm : m < 256) (h0 : m ≠ 0) : x ^^^ m ≠ x ∧ x ^^^ m < 256 := by
  refine ⟨fun h => h0 ?_, Nat.xor_lt_two_pow (n := 8) hx hm⟩
  have h2 : x ^^^ (x ^^^ m) = x ^^^ x := by rw [h]
  rw [← Nat.xor_assoc, Nat.xor_self, Nat.zero_xor] at h2
  exact h2
/-- U is s but for the byte k -/
structure Turn (s U : ByteArray) (k : Nat) : Prop where
  size : U.size = s.size
  lt : k < s.size
  ne : byteAt U k ≠ byteAt s k
  eq : ∀ j, j < s.size → j ≠ k → byteAt U j = byteAt s j
set_option maxRecDepth 100000 in
set_option maxHeartbeats 8000000 in
theorem turned_any (s : ByteArray) (n : Int) (b : UInt8) (hs : s.size ≤ 1048576) (h0 : 0 < s.size) (n0 : -9223372036854775808 ≤ n) (n1 : n ≤ 9223372036854775807) :
    ∃ U k, Turn s U k ∧ ∀ w, Calls Tryz.prog 16 #[.string s, .int .i64 n, .int .u8 b.toNat] w fun e w' => e = .returned (.string U) ∧ Ext [] w w' := by
  obtain ⟨k, hk⟩ : ∃ k : Nat, n % (s.size : Int) = k := ⟨(n % (s.size : Int)).toNat, by have := Int.emod_nonneg n (show (s.size : Int) ≠ 0 by omega); omega⟩
  have hkl : k < s.size := by have := Int.emod_lt_of_pos n (show (0 : Int) < (s.size : Int) by omega); omega
  have b8 := b.toNat_lt
  have hx8 := If.byteAt_lt s k
  obtain ⟨m, hm⟩ : ∃ m : Nat, max (1 : Int) (b.toNat : Int) = (m : Int) := ⟨max 1 b.toNat, by omega⟩
  have m8 : m < 256 ∧ m ≠ 0 := by omega
  obtain ⟨x1, x2⟩ := xor_ne (byteAt s k) m hx8 m8.1 m8.2
  have hxo := u8_xor_nat (byteAt s k) m hx8 m8.1
  obtain ⟨v, hv⟩ : ∃ v, byteAt s k ^^^ m = v := ⟨_, rfl⟩
  rw [hv] at x1 x2 hxo
  obtain ⟨f, hf⟩ : ∃ f : Nat → Nat, (fun j => if j = k then v else byteAt s j) = f := ⟨_, rfl⟩
  have hf0 : ∀ j, f j = if j = k then v else byteAt s j := fun j => by rw [← hf]
  have hf8 : ∀ j, j < s.size → f j < 256 := fun j _ => by
    rw [hf0]
    split
    · exact x2
    · exact If.byteAt_lt s j
  refine ⟨bytesOf f s.size, k, ⟨bytesOf_size _ _, hkl, ?_, fun j hj hjk => ?_⟩, fun w => ?_⟩
  · rw [bytesOf_at f _ k hkl (hf8 k hkl), hf0, if_pos rfl]
    exact x1
  · rw [bytesOf_at f _ j hj (hf8 j hj), hf0, if_neg hjk]
  have HPK := Lib.hid (fun w => Kt.pick_any n (s.size : Int) w (by omega) (by omega) n0 n1)
  have HK := Lib.hid hk
  have hne : ((s.size : Int) == 0) = false := beq_eq_false_iff_ne.2 (by omega)
  have hkz : (k : Int) < (s.size : Int) := by omega
  have hk0 : (0 : Int) ≤ (k : Int) := by omega
  obtain ⟨w1, cap, hcv, hx1, hc1, hc2, htu⟩ := tu_start s w hs
  have S := (Sep.start w).new hx1 (oTu w.heap.size (byteAt s) s.size) htu (fun q hq => by rw [List.mem_singleton.1 hq]; exact Nat.le_refl _)
  have HS := Lib.hid S
  obtain ⟨g, hg⟩ : ∃ g, w.heap.size = g := ⟨_, rfl⟩
  rw [hg] at HS hcv
  obtain ⟨xk, hxk⟩ : ∃ xk, byteAt s k = xk := ⟨_, rfl⟩
  have d1 : ∀ (w9 : World), Ext [] w1 w9 → w9.cell? ⟨g, k, none⟩ = some (.int .u8 (xk : Nat)) := fun w9 hx => by
    rw [← hxk]
    exact oTu_cell ((HS.out.quiet hx).get 0 rfl) k hkl
  have d2 := d1 _ (Ext.refl _ _)
  have hfz := oTu_free (HS.out.get 0 rfl) k hkl
  rw [hxk] at hxo
  have hst := oTu_store (HS.out.get 0 rfl) k v
  rw [hf] at hst
  have hct := tu_text (cap := cap) hst hf8
  have HS2 := Lib.hid (HS.out.upd 0 (oTu g f s.size) rfl ((Ext.refl [g] w1).setCell ⟨g, k, none⟩ (.int .u8 (v : Nat)) (.inl (by simp))) (Fr.refl _ _) hst).ext
  clear hst
  have H := Lib.hid hc1
  clear hk S hf0 hf8 hf htu hx1 n0 n1 hg hv x1 hxk d1 hc1
  go_enter Tryz.func16, Tryz.ntmps16
  go_wp2_with fail
  refine (HPK.out _).mono ?_
  rintro e w2 ⟨rfl, rfl⟩
  rw [HK.out]
  go_wp2_with fail
  go_ret
  exact ⟨rfl, HS2.out⟩
end Go.Proofs.YtnapnaaejignaaaGreat.De
