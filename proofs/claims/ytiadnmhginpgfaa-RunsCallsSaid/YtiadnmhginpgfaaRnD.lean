/-
  bytes.Repeat, few bytes few times: walked.
-/
import Derived.Test.YtiadnmhginpgfaaRnC
import Derived.Lib.MakeNoZero
namespace Go.Proofs.Ytiadnmhginpgfaa.Rn
open Go.RowKit

set_option maxRecDepth 100000 in
set_option maxHeartbeats 4000000 in
theorem mul64_walk (x y : Nat) (w : World) (hx : x ≤ 128) (hy : y ≤ 128) :
    Calls Try.prog 26 #[.int .u64 x, .int .u64 y] w fun e w' => e = .returned (.tuple #[.int .u64 0, .int .u64 ((x * y : Nat) : Int)]) ∧ w' = w := by
  have and32 : ∀ z : Nat, z < 4294967296 → bits BinOp.and IntKind.u64 (z : Int) 4294967295 = (z : Int) := fun z hz => by
    have h1 := bits_and_u64_nat z 4294967295 (by omega) (by omega)
    rw [show (4294967295 : Nat) = 2 ^ 32 - 1 from rfl, Nat.and_two_pow_sub_one_eq_mod, Nat.mod_eq_of_lt (by omega)] at h1
    exact h1
  have h1 := and32 x (by omega)
  have h2 := and32 y (by omega)
  have h0 : bits BinOp.and IntKind.u64 (0 : Int) 4294967295 = 0 := and32 0 (by omega)
  have d1 : (x : Int) / 4294967296 = 0 := by omega
  have d2 : (y : Int) / 4294967296 = 0 := by omega
  have hle : x * y ≤ 128 * 128 := Nat.mul_le_mul hx hy
  obtain ⟨z, hz⟩ : ∃ z, z = x * y := ⟨_, rfl⟩
  have hm : (x : Int) * (y : Int) = (z : Int) := by rw [hz]; simp
  rw [← hz] at hle ⊢
  have hw : IntKind.u64.wrap (z : Int) = z := by rw [IntKind.wrap_u64]; omega
  have hw0 : IntKind.u64.wrap 0 = 0 := rfl
  have d3 : (z : Int) / 4294967296 = 0 := by omega
  have HZ := Lib.hid hz
  clear hz and32
  go_enter Try.func26, Try.ntmps26
  go_wp2_with fail
  go_ret2
  exact ⟨rfl, rfl⟩

theorem mul_walk (x y : Nat) (w : World) (hx : x ≤ 128) (hy : y ≤ 128) :
    Calls Try.prog 23 #[.int .u64 x, .int .u64 y] w fun e w' => e = .returned (.tuple #[.int .u64 0, .int .u64 ((x * y : Nat) : Int)]) ∧ w' = w := by
  have h64 := fun w => mul64_walk x y w hx hy
  generalize x * y = z at h64 ⊢
  have H := Lib.hid h64
  clear h64
  go_enter Try.func23, Try.ntmps23
  go_wp2_with fail
  refine (H.out _).mono ?_
  rintro e w1 ⟨rfl, rfl⟩
  go_wp2_with fail
  go_ret2
  exact ⟨rfl, rfl⟩
/-! ### bytes.Repeat -/
def rep (l : List UInt8) (z : Nat) : List UInt8 := (List.range z).map fun j => l.getD (j % l.length) 0
theorem rep_len (l : List UInt8) (z : Nat) : (rep l z).length = z := by simp [rep]
theorem rep_first (l : List UInt8) : rep l l.length = l := by
  refine List.ext_getElem (rep_len _ _) (fun i h1 h2 => ?_)
  unfold rep
  simp only [List.getElem_map, List.getElem_range, Nat.mod_eq_of_lt h2, List.getD_eq_getElem?_getD, List.getElem?_eq_getElem h2, Option.getD_some]
theorem rep_add (l : List UInt8) (k m : Nat) : rep l (l.length * k + m) = rep l (l.length * k) ++ rep l m := by
  unfold rep
  rw [List.range_add, List.map_append, List.map_map]
  congr 1
  refine List.map_congr_left (fun j _ => ?_)
  simp only [Function.comp, Nat.mul_add_mod]
theorem rep_take (l : List UInt8) (z m : Nat) (h : m ≤ z) : (rep l z).take m = rep l m := by
  unfold rep
  rw [← List.map_take, List.take_range, Nat.min_eq_left h]

theorem makeNoZero_call (z : Nat) (hz : z ≤ 128) (W : World) : ∃ cs : Array Value, (callFunc 24 #[.int .i64 z]).run Try.prog W = .ok (.value (.slice (some ⟨W.heap.size, 0, none⟩) z cs.size)) (W.drew.drew.alloc (.cells cs 5)) ∧ z ≤ cs.size ∧ cs.size ≤ maxLen := by
  obtain ⟨cs, hrun, hle, hmax⟩ := Lib.run_makeNoZero (P := Try.prog) W #[3] 29 5 Try.underlying29 z (by omega)
  refine ⟨cs, ?_, hle, hmax (by unfold maxLen; omega)⟩
  rw [run_callFunc_extern Try.func24 (by kernel_rfl) (by kernel_rfl) (by kernel_rfl) (e := Extern.BytealgMakeNoZero.makeNoZero #[3] #[29]) (by kernel_rfl), hrun]
  rfl

theorem copy_ex {W : World} {g o dLen dCap sLen sCap : Nat} {a : Addr} {cur : Array Value} {xs : List Value} (hg : W.heap[g]? = some (.cells cur 5 (0, 0))) (hn : xs.length = Nat.min sLen dLen)
    (hsrc : ∀ j v, xs[j]? = some v → W.cell? (a.add j) = some v) (hfit : o + xs.length ≤ cur.size) (h1 : ∀ v ∈ xs, v.oneCell' = true) :
    ∃ W', (Builtin.copy_ #[29, 29] 3 #[.slice (some ⟨g, o, none⟩) dLen dCap, .slice (some a) sLen sCap]).run Try.prog W = .ok (.int .i64 (xs.length : Nat)) W' ∧
      W'.heap[g]? = some (.cells (cur.toList.take o ++ xs ++ cur.toList.drop (o + xs.length)).toArray 5 (0, 0)) ∧ Ext [g] W W' :=
  ⟨_, run_copy_row Try.prog W 29 29 3 5 g o dLen dCap a sLen sCap cur 5 xs Try.underlying29 (by kernel_rfl) hg hn hsrc hfit h1, setRow_heap W g cur _ _ _ hg,
    ⟨rfl, rfl, rfl, by simp [World.setRow], fun k _ hk => setRow_other W g k _ (by simpa using hk)⟩⟩
set_option maxRecDepth 100000 in
set_option maxHeartbeats 4000000 in
theorem repeat_walk (l : List UInt8) (c : Nat) (ad : Addr) (cap : Nat) (w : World) (h1 : 1 ≤ l.length) (hc : 1 ≤ c) (hz : l.length * c ≤ 128) (hsrc : ∀ j u, (l.map c8)[j]? = some u → w.cell? (ad.add j) = some u) (hb : ad.block < w.heap.size) :
    Calls Try.prog 19 #[.slice (some ad) l.length cap, .int .i64 c] w fun e w' => ∃ g cur, e = .returned (.slice (some ⟨g, 0, none⟩) (l.length * c) (l.length * c)) ∧ w'.heap[g]? = some (.cells cur 5 (0, 0)) ∧
      cur.toList.take (l.length * c) = (rep l (l.length * c)).map c8 ∧ w.heap.size ≤ g ∧ Ext [] w w' := by
  have hl : l.length ≤ 128 := Nat.le_trans (Nat.le_mul_of_pos_right _ hc) hz
  have hc2 : c ≤ 128 := Nat.le_trans (Nat.le_mul_of_pos_left _ h1) hz
  have hlz : l.length ≤ l.length * c := Nat.le_mul_of_pos_right _ hc
  have hmul := fun w => mul_walk l.length c w hl hc2
  obtain ⟨z, hzz⟩ : ∃ z, z = l.length * c := ⟨_, rfl⟩
  rw [← hzz] at hz hlz ⊢
  simp only [← hzz] at hmul
  have HM := Lib.hid hmul
  have HSRC := Lib.hid hsrc
  have HZZ := Lib.hid hzz
  clear hmul hsrc hzz
  have j1 : ((c : Int) == 0) = false := by simp; omega
  have j2 : ¬ ((c : Int) < 0) := by omega
  have j3 : ((l.length : Int) == 0) = false := beq_eq_false_iff_ne.2 (by omega)
  have j4 : ¬ ((8192 : Int) < (z : Int)) := by omega
  have j5 : ¬ ((9223372036854775807 : Int) < (z : Int)) := by omega
  obtain ⟨cs, hcs, hcs1, hcs2⟩ := makeNoZero_call z hz w
  go_enter Try.func19, Try.ntmps19
  go_wp2_with fail
  refine (HM.out _).mono ?_
  rintro e w1 ⟨rfl, rfl⟩
  have hA : (w1.alloc (.cells cs 5)).drew.drew.heap[w1.heap.size]? = some (.cells cs 5 (0, 0)) := heap_alloc_at _
  obtain ⟨W2, hcp, hW2, hx2⟩ := copy_ex (o := 0) (dLen := z) (dCap := z) (sLen := l.length) (sCap := cap) (a := ad) (xs := l.map c8) hA (by rw [List.length_map]; exact (Nat.min_eq_left hlz).symm)
    (fun j u hu => (World.cell?_alloc_lt w1 (.cells cs 5) _ (World.block_lt_of_cell? w1 _ (HSRC.out j u hu))).trans (HSRC.out j u hu)) (by simp; omega) (by simp [c8, Value.oneCell'])
  simp only [List.length_map] at hcp
  have hx3 : Ext [] w1 W2 := ((((Ext.refl [] w1).alloc (.cells cs 5)).drew).drew).trans' hx2 (fun i hi h => by simp at h; omega)
  have HX := Lib.hid hx3
  have HW := Lib.hid hW2
  clear hx2 hx3 hW2 hA
  go_wp2_with fail
  clear hcp hcs j1 j2 j3 j4 j5
  go_loopg [10] (z - l.length) (fun gg i wr => ∃ (bp k : Nat) (cur : Array Value), gg + bp = z ∧ i = .int .i64 bp ∧ 1 ≤ bp ∧ bp = l.length * k ∧ wr.heap[w1.heap.size]? = some (.cells cur 5 (0, 0)) ∧ cur.size = cs.size ∧ cur.toList.take bp = (rep l bp).map c8 ∧ Ext [] w1 wr)
  case atStart => exact ⟨l.length, 1, _, by omega, rfl, h1, by simp, HW.out, by simp; omega, by simp [rep_first], HX.out⟩
  case round =>
    obtain ⟨bp, k, cur, hg, rfl, hb1, hk, hcur, hsz, htk, hx⟩ := hrel
    have HK := Lib.hid hk
    have HT := Lib.hid htk
    have HX' := Lib.hid hx
    clear HX HW hk htk hx
    by_cases hlt : bp < z
    · have k1 : (bp : Int) < (z : Int) := by omega
      have k2 : (0 : Int) ≤ (bp : Int) := by omega
      have k3 : (bp : Int) ≤ (z : Int) := by omega
      go_wp2_with fail
      refine wp_region_mid (C := fun w' => ∃ x : ExS [w1.heap.size] wr, w' = x.w) 7 1 (by kernel_rfl) (by kernel_rfl) ⟨ExS.mk _ ((Ext.refl _ wr).drew), rfl⟩ ?_
      simp only [List.take_succ_cons, List.take_zero, List.drop_succ_cons, List.drop_zero]
      repeat (go_big_quiet_step (fail))
      refine wpQuiet_nil ?_
      refine midW_step rfl (fun K hK => ?_)
      obtain ⟨m, hm⟩ : ∃ m, m = Nat.min bp (z - bp) := ⟨_, rfl⟩
      have hm1 : m ≤ bp ∧ m ≤ z - bp ∧ (m = bp ∨ m = z - bp) := by rw [hm]; simp only [Nat.min_def]; split <;> omega
      have hlr : ((rep l m).map c8).length = m := by rw [List.length_map, rep_len]
      obtain ⟨W5, hcp, hW5, hx5⟩ := copy_ex (W := wr.drew) (g := w1.heap.size) (o := bp) (dLen := z - bp) (dCap := z - bp) (sLen := bp) (sCap := z) (a := ⟨w1.heap.size, 0, none⟩) (xs := (rep l m).map c8) (show wr.drew.heap[w1.heap.size]? = _ from hcur) (by rw [hlr, hm])
        (fun j u hu => by
          have hj : j < m := by have := (List.getElem?_eq_some_iff.1 hu).1; omega
          refine World.news_of_block (show wr.drew.heap[w1.heap.size]? = _ from hcur) j u ?_
          have h2 : (cur.toList.take bp)[j]? = ((rep l bp).map c8)[j]? := by rw [HT.out]
          rw [List.getElem?_take_of_lt (by omega)] at h2
          rw [h2, ← hu, ← rep_take l bp m hm1.1, List.map_take, List.getElem?_take_of_lt hj]) (by omega) (by simp [c8, Value.oneCell'])
      rw [hlr] at hcp
      have HW5 := Lib.hid hW5
      have HX5 := Lib.hid hx5
      have HLR := Lib.hid hlr
      clear hW5 hx5 hm hlr
      go_wp2_with fail
      refine ⟨⟨ExS.mk W5 ((Ext.refl [w1.heap.size] wr).drew.trans HX5.out), rfl⟩, ?_⟩
      clear hcp
      refine midW_nil ?_
      go_wp2_with fail
      refine NoPanic.normal ?_
      go_wp2_with fail
      go_roundg (z - (bp + m))
      case measure => omega
      case rel =>
        have e1 : (cur.toList.take bp).length = bp := by rw [List.length_take]; simp; omega
        refine ⟨bp + m, if m = bp then 2 * k else c, _, by omega, by go_num, by omega, ?_, HW5.out, ?_, ?_, (HX'.out.drew).trans' HX5.out (fun i hi h => by simp at h; omega)⟩
        · have := HK.out
          have := HZZ.out
          split
          · rw [Nat.mul_left_comm]; omega
          · omega
        · have := HLR.out
          simp only [List.size_toArray, List.length_append, e1, List.length_drop, this]
          simp
          omega
        · have := HLR.out
          rw [List.toList_toArray, List.take_left' (by rw [List.length_append, e1, this]), HT.out, ← List.map_append, HK.out, ← rep_add]
    · have e : bp = z := by omega
      subst e
      go_wp2_with fail
      go_ret
      exact ⟨w1.heap.size, cur, rfl, hcur, HT.out, Nat.le_refl _, HX'.out⟩
end Go.Proofs.Ytiadnmhginpgfaa.Rn
