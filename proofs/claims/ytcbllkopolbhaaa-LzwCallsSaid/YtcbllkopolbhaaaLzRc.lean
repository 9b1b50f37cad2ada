/-
  The document's answer for layer 14: Put walked.
-/
import Derived.Test.YtcbllkopolbhaaaLzRb
import Derived.Test.YtcbllkopolbhaaaBitsRefT
namespace Go.Proofs.Ytcbllkopolbhaaa.Lz
open Go.RowKit Go.Maps
section
variable {w0 w : World} {L : List Ob}
theorem sRfNewH (s : ByteArray) (S : Sep w0 w L) (hs : s.size ≤ 1048576) : Calls Try.prog 28 #[.string s, .bool true] w fun e w' =>
    ∃ b F, e = .returned (.pointer (some ⟨b, 0, none⟩)) ∧ Sep w0 w' (Bt.oRf b F (Bt.allBits s true (8 * s.size)) 0 :: L) :=
  (Bt.rfnew_hi s w hs).mono fun _ _ ⟨b, F, he, h, hF, hx⟩ => ⟨b, F, he, S.new hx (Bt.oRf b F _ 0) h (fun k hk => by rcases hF k hk with q | q; cases q; exact q)⟩
theorem sRfGetH (i : Nat) {b : Nat} {F : List Nat} {s : ByteArray} {q n : Nat} (S : Sep w0 w L) (hL : L[i]? = some (Bt.oRf b F (Bt.allBits s true (8 * s.size)) q)) (hs : s.size ≤ 1048576) (hn : n ≤ 32) (ha : q + n ≤ 8 * s.size) :
    Calls Try.prog 29 #[.pointer (some ⟨b, 0, none⟩), .int .i64 n, .bool true] w fun e w' => e = .returned (.tuple #[.int .u32 (Bt.getv s true q n), .int .i64 0]) ∧ Sep w0 w' (L.set i (Bt.oRf b F (Bt.allBits s true (8 * s.size)) (q + n))) := by
  have hl := Bt.allBits_length s true (8 * s.size)
  have hv : Bt.valOf true (fun i => (Bt.allBits s true (8 * s.size)).getD (q + i) 0) n = Bt.getv s true q n := Bt.valOf_getv s true q _ n (fun j hj => Bt.allBits_getD s true _ _ (by omega))
  rw [← hv]
  exact (Bt.rfget_ok_hi b F _ q n w (by omega) (Bt.allBits_bin _ _ _) hn (by omega) (S.get i hL)).mono fun _ _ ⟨he, h, hx⟩ => ⟨he, S.upd i (Bt.oRf b F _ (q + n)) hL hx (Fr.refl _ _) h⟩
theorem sRfGetMoreH (i : Nat) {b : Nat} {F : List Nat} {s : ByteArray} {q n : Nat} (S : Sep w0 w L) (hL : L[i]? = some (Bt.oRf b F (Bt.allBits s true (8 * s.size)) q)) (hs : s.size ≤ 1048576) (hq : q ≤ 8 * s.size) (hn : n ≤ 32) (ha : 8 * s.size < q + n) :
    Calls Try.prog 29 #[.pointer (some ⟨b, 0, none⟩), .int .i64 n, .bool true] w fun e w' => e = .returned (.tuple #[.int .u32 0, .int .i64 8]) ∧ Sep w0 w' L := by
  have hl := Bt.allBits_length s true (8 * s.size)
  exact (Bt.rfget_more b F _ q n true w (by omega) (by omega) hn (by omega) (S.get i hL)).mono fun _ _ ⟨he, hx⟩ => ⟨he, S.quiet hx⟩
theorem sRfPutH (i : Nat) {b : Nat} {F l : List Nat} {v n : Nat} (S : Sep w0 w L) (hL : L[i]? = some (Bt.oRw b F l)) (hl : l.length < 2 ^ 39) (hv : v < 2 ^ 32) (hn : n ≤ 32) (hvn : v < 2 ^ n) :
    Calls Try.prog 32 #[.pointer (some ⟨b, 0, none⟩), .int .u32 v, .int .i64 n, .bool true] w fun e w' => e = .returned (.int .i64 0) ∧ ∃ F', Sep w0 w' (L.set i (Bt.oRw b F' (l ++ Bt.bitsOf true v n))) :=
  (Bt.rfput_ok b F l v n true w hl hv hn hvn (S.get i hL)).mono fun _ _ ⟨he, F', h, hx, hf⟩ => ⟨he, F', S.upd i (Bt.oRw b F' (l ++ Bt.bitsOf true v n)) hL hx hf h⟩
theorem sRfTextH (i : Nat) {b : Nat} {F l : List Nat} (S : Sep w0 w L) (hL : L[i]? = some (Bt.oRw b F l)) (hl : l.length < 2 ^ 40) (hB : Bt.Bin l) :
    Calls Try.prog 33 #[.pointer (some ⟨b, 0, none⟩), .bool true] w fun e w' => e = .returned (.string (Bt.txt (Bt.packB true l))) ∧ Sep w0 w' L :=
  (Bt.rftext_hi b F l w hl hB (S.get i hL)).mono fun _ _ ⟨he, hx⟩ => ⟨he, S.quiet hx⟩
theorem sRCodes (s : ByteArray) (hs : s.size ≤ 1048576) (S : Sep w0 w L) :
    Calls Try.prog 15 #[.string s] w fun e w' => ∃ v, e = .returned v ∧ Sep w0 w' (oSl 3 1 v (codes (tailB s 0)).length ((codes (tailB s 0)).map iv) :: L) :=
  (rcodes_walk s w hs).mono fun _ _ ⟨v, he, S'⟩ => ⟨v, he, S.new S'.ext _ (S'.get 0 rfl) (S'.base _ (by simp))⟩
end
set_option maxRecDepth 100000 in
set_option maxHeartbeats 8000000 in
theorem rput_walk (s : ByteArray) (early : Bool) (w : World) (hs : s.size ≤ 1048576) :
    Calls Try.prog 16 #[.string s, .bool early] w fun e w' => e = .returned (.string (putS early s)) ∧ Ext [] w w' := by
  obtain ⟨cl, hcl⟩ : ∃ cl, cl = codes (tailB s 0) := ⟨_, rfl⟩
  have hlen := codes_len (tailB s 0)
  rw [tailB_len, ← hcl] at hlen
  have hfit := codes_fits early (tailB s 0) (tailB_lt s 0)
  rw [← hcl] at hfit
  have hpos : 0 < cl.length := by rw [hcl]; simp [codes]
  have htot : [] ++ putF early 258 false (cl.drop 0) = putB early s := by rw [hcl]; rfl
  have HF := Lib.hid hfit
  have HT := Lib.hid htot
  have HC := Lib.hid hcl
  clear hfit hcl htot
  have S := (Sep.start w).new ((Ext.refl [] w).alloc (Bt.rfw (.slice none 0 0))) (Bt.oRw w.heap.size [w.heap.size] []) ⟨.slice none 0 0, heap_alloc_at _, World.ownsRow_nil _ _ _ _, rfl, by simp [Value.ownBlock]⟩ (fun k hk => by rw [List.mem_singleton.1 hk]; exact Nat.le_refl _)
  have HS := Lib.hid S
  clear S
  obtain ⟨b1, hb1⟩ : ∃ b, w.heap.size = b := ⟨_, rfl⟩
  have HB := Lib.hid hb1
  clear hb1
  go_enter Try.func16, Try.ntmps16
  go_wp2_with fail
  refine (sRCodes s hs HS.out).mono ?_; clear HS; rintro e w3 ⟨v, rfl, S⟩
  rw [← HC.out] at S
  obtain ⟨g, cap, hv⟩ := row_form (S.get 0 rfl) hpos
  rw [hv] at S ⊢
  clear hv
  rw [HB.out] at S ⊢
  have HS := Lib.hid S
  clear S
  go_wp2_with fail
  go_loopg [7, 8, 9] cl.length (fun gg nv bv i wr => ∃ k : Nat, gg + k = cl.length ∧ i = .int .i64 k ∧ ∃ n b F l, nv = .int .i64 (n : Nat) ∧ bv = .bool b ∧ fits early n b (cl.drop k) ∧ l ++ putF early n b (cl.drop k) = putB early s ∧ l.length ≤ 12 * k ∧
    Sep w wr [oSl 3 1 (.slice (some ⟨g, 0, none⟩) cl.length cap) cl.length (cl.map iv), Bt.oRw b1 F l])
  case atStart => exact ⟨0, by omega, rfl, 258, false, [b1], [], rfl, rfl, HF.out, HT.out, by simp, HS.out⟩
  case round =>
    clear HF HT HS
    obtain ⟨k, hk, rfl, n, b, F, l, rfl, rfl, hfit, htot, hl, S⟩ := hrel
    by_cases hlt : k < cl.length
    · obtain ⟨c, hc⟩ : ∃ c, cl[k] = c := ⟨_, rfl⟩
      have hd := drop_at cl k hlt
      rw [hc] at hd
      rw [hd] at hfit htot
      have hc4 : c < 4096 := Nat.lt_of_lt_of_le hfit.1.1 (Nat.pow_le_pow_right (by omega) (wid_le n early).2 : 2 ^ wid n early ≤ 2 ^ 12)
      have hw := wid_le n early
      have hn := hfit.1.2
      have hcell : wr.cell? ⟨g, k, none⟩ = some (.int .i64 c) := ownsRow_at (S.get 0 rfl) (by simp [hlt, hc, iv])
      have i1 : (0 : Int) ≤ (k : Int) := by omega
      have i2 : (k : Int) < (cl.length : Int) := by omega
      have HFT := Lib.hid hfit
      have HT := Lib.hid htot
      have HS := Lib.hid (S.quiet (Ext.refl [] wr).drew)
      have HD := Lib.hid hd
      have HE := Lib.hid hc
      clear hfit htot S hd hc
      have hlb : l.length < 2 ^ 39 := by omega
      have hc32 : c < 2 ^ 32 := by omega
      have hw32 : wid n early ≤ 32 := by omega
      have HLB := Lib.hid hlb
      have HC32 := Lib.hid hc32
      have HW32 := Lib.hid hw32
      clear hlb hc32 hw32
      have hwr : IntKind.u32.wrap (c : Int) = (c : Int) := by rw [IntKind.wrap_u32]; omega
      have hn40 : n < 2 ^ 40 := by omega
      go_wp2_with fail
      go_region_held3 (fun w' => w'.cell? ⟨g, k, none⟩ = some (.int .i64 c)) (first | go_keep | (exact ownsRow_at (S5.get 0 rfl) (by have := HE.out; simp [hlt, this, iv])))
        (first | (go_at_call 30; refine (rwidth_any n early _ hn40).mono ?_; rintro e w4 ⟨rfl, rfl⟩) | (go_at_call 32; refine (sRfPutH (b := b1) (F := F) (l := l) (v := c) (n := wid n early) 1 HS.out rfl HLB.out HC32.out HW32.out HFT.out.1.1).mono ?_; rintro e w5 ⟨rfl, F', S5⟩))
      have q5 : w5.cell? ⟨g, k, none⟩ = some (.int .i64 c) := ownsRow_at (S5.get 0 rfl) (by have := HE.out; simp [hlt, this, iv])
      rename_i hHeld
      have H5 := Lib.hid S5
      clear hHeld S5 hwr hcell HS HLB HC32 HW32 hn40
      have hnx : ∀ n' b', bhN n b c = n' → bhB c = b' → ∃ n b F l_1, (.int .i64 (n' : Nat) : Value) = .int .i64 (n : Nat) ∧ (.bool b' : Value) = .bool b ∧ fits early n b (cl.drop (k + 1)) ∧ l_1 ++ putF early n b (cl.drop (k + 1)) = putB early s ∧ l_1.length ≤ 12 * (k + 1) ∧
          Sep w w5 [oSl 3 1 (.slice (some ⟨g, 0, none⟩) cl.length cap) cl.length (cl.map iv), Bt.oRw b1 F l_1] := fun n' b' h1 h2 => by
        subst h1 h2
        refine ⟨_, _, F', l ++ Bt.bitsOf true c (wid n early), rfl, rfl, HFT.out.2, ?_, ?_, H5.out⟩
        · rw [List.append_assoc]; exact HT.out
        · rw [List.length_append, Bt.bitsOf_length]; omega
      have HNX := Lib.hid hnx
      clear hnx
      by_cases h256 : c = 256
      · subst h256
        go_wp2_with fail
        go_roundg (cl.length - (k + 1))
        case measure => omega
        case rel => exact ⟨k + 1, by omega, by go_num, HNX.out 258 false (by simp [bhN]) rfl⟩
      · have hB : bhB c = true := by simp [bhB, h256]
        cases b with
        | false =>
          have hN : bhN n false c = n := by simp [bhN, h256]
          have HN := Lib.hid hN
          have HBB := Lib.hid hB
          clear hN hB
          go_wp2_with fail
          go_roundg (cl.length - (k + 1))
          case measure => omega
          case rel => exact ⟨k + 1, by omega, by go_num, HNX.out n true HN.out HBB.out⟩
        | true =>
          have hN : bhN n true c = n + 1 := by rw [bhN, if_neg h256, if_pos ⟨rfl, by omega⟩]
          have HN := Lib.hid hN
          have HBB := Lib.hid hB
          clear hN hB
          go_wp2_with fail
          go_roundg (cl.length - (k + 1))
          case measure => omega
          case rel => exact ⟨k + 1, by omega, by go_num, HNX.out (n + 1) true HN.out HBB.out⟩
    · have hk' : cl.drop k = [] := List.drop_eq_nil_iff.2 (by omega)
      rw [hk', putF, List.append_nil] at htot
      have hlb : l.length < 2 ^ 40 := by omega
      have hbin : Bt.Bin l := by rw [htot]; exact putF_bin _ _ _ _
      have HT := Lib.hid htot
      have HS := Lib.hid S
      clear htot S hk' hfit
      go_wp2_with fail
      refine (sRfTextH 1 HS.out rfl hlb hbin).mono ?_; rintro e w4 ⟨rfl, S⟩
      go_wp2_with fail
      go_ret
      rw [HT.out]
      exact ⟨rfl, S.ext⟩
end Go.Proofs.Ytcbllkopolbhaaa.Lz
