/-
  Plain: how long what tree's functions tell is, of a light tree.
-/
import Derived.Test.YtkjcjklnclahdaaGreatDoorTuL
import Derived.Test.YtkjcjklnclahdaaGreatDoorPkZ
namespace Go.Proofs.YtkjcjklnclahdaaGreatDoor.Tr
open Go.RowKit

theorem light_facts {l : List Nd} (h : lightL l 300 = true) : l.length ≤ 300 ∧ ∀ x ∈ l, x.kids.length ≤ 300 ∧ x.s.size ≤ 2000 := by
  unfold lightL at h
  rw [Bool.and_eq_true, decide_eq_true_eq, List.all_eq_true] at h
  refine ⟨by omega, fun x hx => ?_⟩
  have := of_decide_eq_true (h.1 x hx)
  omega
theorem dictN_len (P : List Ent) : (dictN P).1.length ≤ 65536 := by
  by_cases h : (dictN P).2 = 0
  · obtain ⟨-, h1, h2⟩ := dictN_ok h
    rw [h2]
    exact (check_zero h1).2.1
  · rw [dictN_bad h]
    exact Nat.zero_le _
theorem setN_len (l : List Nd) (s : ByteArray) (v : List Nd) : (setN l s v).1.length ≤ 65536 := by
  unfold setN
  split
  · exact Nat.zero_le _
  · split
    · exact Nat.zero_le _
    · exact dictN_len _
theorem subN_len (l : List Nd) (i : Nat) : (subN l i).length ≤ l.length := by
  unfold subN
  split
  · rw [List.length_map, List.length_drop, List.length_take]
    omega
  · exact Nat.zero_le _
theorem subXN_len (l : List Nd) (i : Int) : (subXN l i).length ≤ l.length := by
  unfold subXN
  split
  · exact subN_len l _
  · exact Nat.zero_le _
theorem dropN_len {l : List Nd} (h : l.length ≤ 300) (s : ByteArray) : (dropN l s).length ≤ 65536 := by
  unfold dropN
  split
  · exact Nat.zero_le _
  · split
    · have := subN_len l 0
      omega
    · exact dictN_len _
theorem oneN_len (x : Nd) : (oneN x).1.length ≤ 1 := by
  unfold oneN
  split
  · exact Nat.zero_le _
  · exact Nat.le_refl _
theorem getN_len (l : List Nd) (s : ByteArray) : ((getN l s).getD []).length ≤ l.length := by
  unfold getN
  split
  · exact subN_len l _
  · exact Nat.zero_le _
theorem pairs_count (l : List Nd) : ∀ L : List Int, (pairsN l L).length ≤ L.length
  | [] => Nat.le_refl _
  | [_] => by simp [pairsN]
  | k :: m :: r => by
    have := pairs_count l r
    rw [pairsN]
    simp only [List.length_cons]
    omega
theorem ents_count {l : List Nd} (h : ∀ x ∈ l, x.kids.length ≤ 300) (s : ByteArray) : (entsN l s).length ≤ 999 := by
  have h1 : (entsN l s).length ≤ (pairsN l (ndAt l 0).kids).length := List.length_filter_le _ _
  have h2 := pairs_count l (ndAt l 0).kids
  have h3 : (ndAt l 0).kids.length ≤ 300 := by
    cases l with
    | nil => exact Nat.zero_le _
    | cons x r => exact h x (by simp)
  omega
theorem items_each {l x : List Nd} (h : x ∈ itemsN l) : x.length ≤ l.length := by
  unfold itemsN at h
  split at h
  · obtain ⟨k, -, rfl⟩ := List.mem_map.1 h
    exact subN_len l _
  · cases h
theorem items_count {l : List Nd} (h : ∀ x ∈ l, x.kids.length ≤ 300) : (itemsN l).length ≤ 300 := by
  unfold itemsN
  split
  · rw [List.length_map]
    cases l with
    | nil => exact Nat.zero_le _
    | cons x r => exact h x (by simp)
  · exact Nat.zero_le _
theorem refs_count {l : List Nd} (h : l.length ≤ 300) : (refsN l).length ≤ 300 := by
  unfold refsN
  split
  · rw [List.length_map]
    have := List.length_filter_le (fun x : Nd => decide (x.kind = 9)) l
    omega
  · exact Nat.zero_le _
theorem RefsAt.ext {w w' : World} {v : Value} {l : List (Int × Int)} (h : RefsAt w v l) (hx : Ext [] w w') : RefsAt w' v l := by
  obtain ⟨base, cap, h1, h0, h2⟩ := h
  exact ⟨base, cap, h1, h0, fun i hi => by
    obtain ⟨b, o, e, c1, c2⟩ := h2 i hi
    exact ⟨b, o, e, hx.cell c1, hx.cell c2⟩⟩
set_option maxRecDepth 100000 in
set_option maxHeartbeats 1000000 in
theorem refs_same (u v : Value) (a : List (Int × Int)) (w : World) (hu : RefsAt w u a) (hv : RefsAt w v a) (ha : a.length ≤ 9223372036854775807) :
    Calls Tryz.prog 29 #[u, v] w fun e w' => e = .returned (.bool true) ∧ Ext [] w w' := by
  obtain ⟨ub, uc, rfl, -, hU⟩ := hu
  obtain ⟨vb, vc, rfl, -, hV⟩ := hv
  obtain ⟨n, hn⟩ : ∃ n, a.length = n := ⟨_, rfl⟩
  have HH := Lib.hid (⟨hU, hV, hn⟩ : _ ∧ _ ∧ _)
  rw [hn] at ha ⊢
  have hbb : ((n : Int) != (n : Int)) = false := bne_self_eq_false _
  clear hU hV hn
  go_enter Tryz.func29, Tryz.ntmps29
  go_wp2_with fail
  clear hbb
  go_loopg [4, 5] n (fun g v4 iv wr => ∃ i : Nat, g + i = n ∧ iv = .int .i64 i ∧ Ext [] w wr)
  case atStart => exact ⟨0, by omega, rfl, Ext.refl _ _⟩
  case round =>
    obtain ⟨i, hgi, rfl, hx⟩ := hrel
    by_cases hlt : i < n
    case neg =>
      obtain rfl : gk = 0 := by omega
      have HX := Lib.hid hx
      clear hx
      go_wp2_with fail
      go_ret
      exact ⟨rfl, HX.out⟩
    case pos =>
    obtain ⟨g, rfl⟩ : ∃ g, gk = g + 1 := ⟨gk - 1, by omega⟩
    have hltz : (i : Int) < (n : Int) := by omega
    have hia : i < a.length := by rw [HH.out.2.2]; exact hlt
    obtain ⟨b1, o1, rfl, x1, x2⟩ := HH.out.1 i hia
    obtain ⟨b2, o2, rfl, y1, y2⟩ := HH.out.2.1 i hia
    have x1 := hx.cell x1
    have x2 := hx.cell x2
    have y1 := hx.cell y1
    have y2 := hx.cell y2
    generalize a[i]'hia = p at *
    have HX := Lib.hid hx
    clear hx
    go_upto_region 6 with (fail)
    go_quiet (fail)
    go_wp2_with fail
    go_roundg g
    case measure => omega
    case rel => exact ⟨i + 1, by omega, by go_num, HX.out.drewN _⟩
theorem same_true (u v : Value) (a : List Nd) (w : World) (hu : NodesAt w u a) (hv : NodesAt w v a) (ha : a.length ≤ 9223372036854775807) :
    Calls Tryz.prog 15 #[u, v] w fun e w' => e = .returned (.bool true) ∧ Ext [] w w' := by
  have := lsame_walk u v a a w hu hv ha ha
  rw [(sameL_iff a a).2 rfl] at this
  exact this
theorem strs_true (u v : Value) (a : List ByteArray) (w : World) (hu : StrsAt w u a) (hv : StrsAt w v a) (ha : a.length ≤ 9223372036854775807) :
    Calls Tryz.prog 24 #[u, v] w fun e w' => e = .returned (.bool true) ∧ Ext [] w w' := by
  have := sameS_walk u v a a w hu hv ha ha
  rw [(sameS_iff a a).2 rfl] at this
  exact this
/-- a node handed over by value -/
def NdArg (w : World) (v : Value) (x : Nd) : Prop := ∃ kb kc, v = .agg #[.int .i64 x.kind, .int .i64 x.n, .int .i64 x.gen, .string x.s, .slice kb x.kids.length kc] ∧ NdWf x ∧ IntsAt w kb x.kids
end Go.Proofs.YtkjcjklnclahdaaGreatDoor.Tr
