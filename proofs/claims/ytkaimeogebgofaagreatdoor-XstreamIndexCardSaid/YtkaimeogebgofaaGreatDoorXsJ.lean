/-
  xstream.Dict walked.
-/
import Derived.Test.YtkaimeogebgofaaGreatDoorXsI
import Derived.Test.YtkaimeogebgofaaGreatDoorXsF
namespace Go.Proofs.YtkaimeogebgofaaGreatDoor.Xs
open Go.RowKit
open Go.Proofs.YtkaimeogebgofaaGreatDoor.Tr

def kType : ByteArray := ⟨#[84, 121, 112, 101]⟩
def kXRef : ByteArray := ⟨#[88, 82, 101, 102]⟩
def nd3 (n : Int) : Nd := ⟨3, n, 0, ⟨#[]⟩, []⟩
def nd6 (s : ByteArray) : Nd := ⟨6, 0, 0, s, []⟩
def d5L (size : Int) : List Nd := [nd6 kSize, nd3 size, nd6 kType, nd6 kXRef, nd6 kW]
def dictD (size : Int) : List Nd := rootN 8 [1, 2, 3, 4, 5, 6] :: (d5L size ++ [rootN 7 [7, 8, 9], nd3 1, nd3 4, nd3 2])
def d5Z (size : Int) : List Zd := (d5L size).map fun x => (x, .slice none 0 0)
set_option maxRecDepth 100000 in
set_option maxHeartbeats 1000000 in
theorem dict1_walk21 (n : Int) (hn : -9223372036854775808 ≤ n ∧ n ≤ 9223372036854775807) (w : World) : Calls Tryz.prog 19 #[.int .i64 n] w fun e w' => ∃ b c, e = .returned (.slice b 1 c) ∧ Ext [] w w' ∧ NodesAt w' (.slice b 1 c) [nd3 n] := by
  go_enter Tryz.func19, Tryz.ntmps19
  go_wp2_with fail
  go_ret
  exact ⟨_, _, rfl, (Ext.refl [] w).alloc _, one_nodes (x := nd3 n) (heap_alloc_at _) rfl hn (by show (0 : Nat) ≤ _; omega)⟩
theorem trees3 {w : World} {g : Nat} {u v x : Value} {a b c : List Nd} {t : TypeId} {f : Nat × Nat} (h : w.heap[g]? = some (.cells #[u, v, x] t f)) (hu : NodesAt w u a) (hv : NodesAt w v b) (hx : NodesAt w x c) : TreesAt w (.slice (some ⟨g, 0, none⟩) 3 3) [a, b, c] :=
  ⟨_, 3, rfl, Nat.le_refl _, fun i hi => by
    match i, hi with
    | 0, _ => exact ⟨g, 0, u, rfl, cellOf h 0, hu⟩
    | 1, _ => exact ⟨g, 0, v, rfl, cellOf h 1, hv⟩
    | 2, _ => exact ⟨g, 0, x, rfl, cellOf h 2, hx⟩⟩
theorem arr142 : arrayN [[nd3 1], [nd3 4], [nd3 2]] = ([rootN 7 [1, 2, 3], nd3 1, nd3 4, nd3 2], 0) := by kernel_rfl
def addK : Nat → List Int
  | 0 => [1, 2, 3]
  | 1 => [7, 2, 3]
  | 2 => [7, 8, 3]
  | _ => [7, 8, 9]
theorem addK_step (i : Nat) (h : i < 3) : (addK i).length = 3 ∧ (addK i)[i]? = some ((i : Int) + 1) ∧ (addK i).set i ((i : Int) + 1 + 6) = addK (i + 1) := by
  have : i = 0 ∨ i = 1 ∨ i = 2 := by omega
  rcases this with rfl | rfl | rfl <;> exact ⟨rfl, rfl, rfl⟩
theorem cells_d5 (w : World) (size : Int) (hs : -9223372036854775808 ≤ size ∧ size ≤ 9223372036854775807) (g : Nat) (h : w.heap[g]? = some (.cells #[.int .i64 8, .int .i64 0, .int .i64 0, .string ⟨#[]⟩, .slice none 0 0, .int .i64 6, .int .i64 0, .int .i64 0, .string ⟨#[83, 105, 122, 101]⟩, .slice none 0 0, .int .i64 3, .int .i64 size, .int .i64 0, .string ⟨#[]⟩, .slice none 0 0,
    .int .i64 6, .int .i64 0, .int .i64 0, .string ⟨#[84, 121, 112, 101]⟩, .slice none 0 0, .int .i64 6, .int .i64 0, .int .i64 0, .string ⟨#[88, 82, 101, 102]⟩, .slice none 0 0, .int .i64 6, .int .i64 0, .int .i64 0, .string ⟨#[87]⟩, .slice none 0 0] 47 (0, 0))) :
    ZwP w (.slice (some ⟨g, 0, none⟩) 6 6) ((rootN 8 [], .slice none 0 0) :: d5Z size) := by
  refine ⟨⟨rfl, .inr ⟨g, 6, _, rfl, Nat.zero_le _, h, by show 6 ≤ 6; omega, by decide, rfl, rfl⟩⟩, fun p hp => ?_, ?_, fun p hp => ?_⟩
  · simp only [d5Z, d5L, List.map_cons, List.map_nil, List.mem_cons, List.not_mem_nil, or_false] at hp
    rcases hp with rfl | rfl | rfl | rfl | rfl | rfl <;> exact World.ownsRow_nil _ _ _ _
  · simp [zwF, kG, Value.ownBlock, d5Z, d5L]
  · simp only [d5Z, d5L, List.map_cons, List.map_nil, List.mem_cons, List.not_mem_nil, or_false] at hp
    rcases hp with rfl | rfl | rfl | rfl | rfl | rfl
    · exact ⟨by decide, by decide, by decide, fun k hk => by cases hk⟩
    · exact ⟨by decide, by decide, by decide, fun k hk => by cases hk⟩
    · exact ⟨hs, by show (0 : Nat) ≤ _; omega, by show (0 : Nat) ≤ _; omega, fun k hk => by cases hk⟩
    · exact ⟨by decide, by decide, by decide, fun k hk => by cases hk⟩
    · exact ⟨by decide, by decide, by decide, fun k hk => by cases hk⟩
    · exact ⟨by decide, by decide, by decide, fun k hk => by cases hk⟩
theorem zd4 {Z : List Zd} {a b c d : Nd} (h : Z.map (·.1) = [a, b, c, d]) : ∃ k0 k1 k2 k3, Z = [(a, k0), (b, k1), (c, k2), (d, k3)] := by
  match Z, h with
  | [(x0, k0), (x1, k1), (x2, k2), (x3, k3)], h =>
    simp at h
    obtain ⟨rfl, rfl, rfl, rfl⟩ := h
    exact ⟨_, _, _, _, rfl⟩
theorem first_kids {w : World} {g n c : Nat} {x : Nd} {kv : Value} {Z : List Zd} (h : ZwP w (.slice (some ⟨g, 0, none⟩) n c) ((x, kv) :: Z)) : w.cell? ⟨g, 4, none⟩ = some kv ∧ w.frozen? ⟨g, 4, none⟩ = false ∧ ∃ cur, w.heap[g]? = some (.cells cur 47 (0, 0)) ∧ cur[4]? = some kv := by
  have hn : n = ((x, kv) :: Z).length := by
    have := h.row.2
    rcases this with ⟨h1, h2⟩ | ⟨g', cap', cur, hv, _⟩
    · cases h1
    · cases hv; rfl
  obtain ⟨cur, hg, -, -, -, ht⟩ := row_open (by rw [hn] at h; exact h.row)
  have k4 : cur[4]? = some kv := by
    have h4 : (rowN ((x, kv) :: Z))[4]? = some kv := rfl
    rw [← ht, List.getElem?_take] at h4
    split at h4
    · simpa using h4
    · cases h4
  exact ⟨by rw [cellOf hg, k4], freeOf hg 4, cur, hg, k4⟩
set_option maxRecDepth 100000 in
set_option maxHeartbeats 8000000 in
theorem dict21_walk (size : Int) (hs : -9223372036854775808 ≤ size ∧ size ≤ 9223372036854775807) (w : World) :
    Calls Tryz.prog 8 #[.int .i64 size] w fun e w' => ∃ v2, e = .returned v2 ∧ Ext [] w w' ∧ NodesAt w' v2 (dictD size) := by
  obtain ⟨i0, hif, hz0, hz1, hz2⟩ := info_parts infoInt
  obtain ⟨j0, hjf, hy0, hy1, hy2⟩ := info_parts infoNode
  have H1 := Lib.hid (fun w => dict1_walk21 1 (by decide) w)
  have H4 := Lib.hid (fun w => dict1_walk21 4 (by decide) w)
  have H2 := Lib.hid (fun w => dict1_walk21 2 (by decide) w)
  go_enter Tryz.func8, Tryz.ntmps8
  go_wp2_with fail
  refine (H1.out _).mono ?_
  rintro e w1 ⟨b1, q1, rfl, hx, hN⟩
  have HX1 := Lib.hid (⟨hx, hN⟩ : _ ∧ _)
  clear hx hN H1
  go_wp2_with fail
  refine (H4.out _).mono ?_
  rintro e w2 ⟨b4, q4, rfl, hx, hN⟩
  have HX2 := Lib.hid (⟨HX1.out.1.trans hx, HX1.out.2.ext hx, hN⟩ : _ ∧ _ ∧ _)
  clear hx hN H4 HX1
  go_wp2_with fail
  refine (H2.out _).mono ?_
  rintro e w3 ⟨b3, q3, rfl, hx, hN⟩
  have HX3 := Lib.hid (⟨HX2.out.1.trans hx, HX2.out.2.1.ext hx, HX2.out.2.2.ext hx, hN⟩ : _ ∧ _ ∧ _ ∧ _)
  clear hx hN H2 HX2
  have HA := Lib.hid (fun W (hW : W = w3.alloc (Obj.cells #[.slice b1 1 q1, .slice b4 1 q4, .slice b3 1 q3] 28)) => (by
    have hx : Ext [] w3 W := by rw [hW]; exact (Ext.refl [] w3).alloc _
    have hb : W.heap[w3.heap.size]? = some (.cells #[.slice b1 1 q1, .slice b4 1 q4, .slice b3 1 q3] 28 (0, 0)) := by rw [hW]; exact heap_alloc_at _
    have h := array_own (.slice (some ⟨w3.heap.size, 0, none⟩) 3 3) [[nd3 1], [nd3 4], [nd3 2]] W (trees3 hb (HX3.out.2.1.ext hx) (HX3.out.2.2.1.ext hx) (HX3.out.2.2.2.ext hx)) (by decide) (fun l hl => by
      simp only [List.mem_cons, List.not_mem_nil, or_false] at hl
      rcases hl with rfl | rfl | rfl <;> exact ⟨by decide, fun x hx => by
        obtain rfl := List.mem_singleton.1 hx
        show (0 : Nat) ≤ _
        omega⟩) (by rw [arr142])
    rw [arr142] at h
    exact And.intro (HX3.out.1.trans hx) h))
  go_wp2_with fail
  obtain ⟨W, hW⟩ : ∃ W, w3.alloc (Obj.cells #[.slice b1 1 q1, .slice b4 1 q4, .slice b3 1 q3] 28) = W := ⟨_, rfl⟩
  rw [hW]
  obtain ⟨hxW, HC⟩ := HA.out W hW.symm
  have HC := Lib.hid HC
  have HXW := Lib.hid hxW
  clear hxW HA hW HX3
  refine HC.out.mono ?_
  rintro e w4 ⟨b, v2, Z, rfl, S, hZ⟩
  obtain ⟨k0, k1, k2, k3, rfl⟩ := zd4 hZ
  have S := sep_zw S
  have hP : ZwP w4 v2 [(rootN 7 [1, 2, 3], k0), (nd3 1, k1), (nd3 4, k2), (nd3 2, k3)] := S.get 0 rfl
  have hk0 : w4.ownsRow 0 3 1 k0 3 [.int .i64 1, .int .i64 2, .int .i64 3] := hP.kids (rootN 7 [1, 2, 3], k0) (by simp)
  obtain ⟨pw, cw, rfl⟩ := row_form hP.row (by simp)
  obtain ⟨pk, ck, rfl⟩ := row_form hk0 (by omega)
  obtain ⟨Zt, hZt⟩ : ∃ Zt : List Zd, [(nd3 1, k1), (nd3 4, k2), (nd3 2, k3)] = Zt := ⟨_, rfl⟩
  rw [hZt] at S
  have HZt := Lib.hid (show Zt.map (·.1) = [nd3 1, nd3 4, nd3 2] ∧ Zt.length = 3 by rw [← hZt]; exact ⟨rfl, rfl⟩)
  have S : Sep W w4 [oZw (.slice (some ⟨pw, 0, none⟩) 4 cw) ((rootN 7 [1, 2, 3], .slice (some ⟨pk, 0, none⟩) 3 ck) :: Zt)] := by rw [← hZt]; rw [← hZt] at S; exact S
  have HS := Lib.hid S
  clear hP S hZ hZt HC hk0
  simp only [List.length_cons, List.length_nil, Nat.zero_add, Nat.reduceAdd]
  go_wp2_with fail
  have S := HS.out.new ((Ext.refl [] w4).alloc _) (oZw (.slice (some ⟨w4.heap.size, 0, none⟩) 6 6) ((rootN 8 [], .slice none 0 0) :: d5Z size)) (cells_d5 _ size hs w4.heap.size (heap_alloc_at _)) (fun q hq => by simp [oZw, zwF, kG, Value.ownBlock, d5Z, d5L] at hq; omega)
  obtain ⟨pd, hpd⟩ : ∃ pd, w4.heap.size = pd := ⟨_, rfl⟩
  rw [hpd] at S ⊢
  have HS := Lib.hid S
  clear S hpd
  go_loopg [7, 28] 6 (fun g v7 iv wr => ∃ (i : Nat) (kv : Value), g + i = 6 ∧ iv = .int .i64 i ∧ Sep W wr [oZw (.slice (some ⟨pd, 0, none⟩) 6 6) ((rootN 8 (rangeI 1 i), kv) :: d5Z size), oZw (.slice (some ⟨pw, 0, none⟩) 4 cw) ((rootN 7 [1, 2, 3], .slice (some ⟨pk, 0, none⟩) 3 ck) :: Zt)])
  case atStart => exact ⟨0, _, by omega, rfl, HS.out⟩
  case round =>
    clear HS
    obtain ⟨i, kv, hgi, rfl, S⟩ := hrel
    have hP : ZwP wr (.slice (some ⟨pd, 0, none⟩) 6 6) ((rootN 8 (rangeI 1 i), kv) :: d5Z size) := S.get 0 rfl
    by_cases hlt : i < 6
    · obtain ⟨g, rfl⟩ : ∃ g, gk = g + 1 := ⟨gk - 1, by omega⟩
      have hltz : (i : Int) < 6 := by omega
      have hkv : wr.ownsRow 0 3 1 kv i ((rangeI 1 i).map iz) := by
        have h0 := hP.kids (rootN 8 (rangeI 1 i), kv) (by simp)
        rw [show (rootN 8 (rangeI 1 i)).kids.length = i from rangeI_len 1 i] at h0
        exact h0
      obtain ⟨ao, c6, rfl⟩ := row_slice hkv
      have hk5 : (Value.slice ao i c6).ownBlock ≠ some pd := fun e => by
        have hd := hP.dup
        unfold zwF at hd
        exact (List.nodup_append.1 hd).2.2 pd (by simp [Value.ownBlock]) pd (kG_mem (p := (rootN 8 (rangeI 1 i), .slice ao i c6)) (by simp) e) rfl
      obtain ⟨e4, -, cur, hob, k4⟩ := first_kids hP
      have HK := Lib.hid (⟨hkv, hP, hk5, k4, hob, S⟩ : _ ∧ _ ∧ _ ∧ _ ∧ _ ∧ _)
      clear hkv hP hk5 k4 hob S
      go_upto_region 8 with (at_builtin; refine wpList_append_lies _ rfl _ _ 45 rfl 0 3 i0 _ 1 8 Tryz.underlying45 hif hz0 hz1 hz2 rfl (by decide) (.slice ao i c6) i _ rfl (World.ownsRow.alloc HK.out.1 _) ⟨wr.heap.size, 0, none⟩ 1 1 [.int .i64 ((i : Int) + 1)] rfl rfl (cell_one_new _ _ _) (by simp [Value.oneCell']) (by decide) (by unfold maxLen; omega) (by omega) (by omega) (wr.heap.size + 1) (by simp) ?_; intro g6 cap2 w6 hown1 hgrow hat hlt6; have hb6 : w6.heap[pd]? = some (.cells cur 47 (0, 0)) := grown_keep hgrow (heap_alloc_old _ HK.out.2.2.2.2.1) HK.out.2.2.1; have f4 := freeOf hb6 4; have d4 : w6.cell? ⟨pd, 4, none⟩ = some (.slice ao i c6) := (by rw [cellOf hb6, HK.out.2.2.2.1]); have HG := Lib.hid (⟨hown1, hgrow, hat⟩ : _ ∧ _ ∧ _); clear hown1 hgrow hat hlt6 hb6)
      have hrl := rangeI_len 1 i
      have hP5 : ZwP wr (.slice (some ⟨pd, 0, none⟩) ((d5Z size).length + 1) 6) ((rootN 8 (rangeI 1 i), .slice ao i c6) :: d5Z size) := HK.out.2.1
      have hkid := ZwP.kid (x := rootN 8 (rangeI 1 i)) (c := (i : Int) + 1) hP5 (by rw [show (rootN 8 (rangeI 1 i)).kids.length = i from hrl]; exact HG.out.1) HG.out.2.1 HG.out.2.2 (by omega) (by rw [show (rootN 8 (rangeI 1 i)).kids.length = i from hrl]; omega)
      rw [show (rootN 8 (rangeI 1 i)).kids.length = i from hrl] at hkid
      have hsu : ({ rootN 8 (rangeI 1 i) with kids := (rootN 8 (rangeI 1 i)).kids ++ [(i : Int) + 1] } : Nd) = rootN 8 (rangeI 1 (i + 1)) := by
        rw [rangeI_succ, show (1 : Int) + (i : Int) = (i : Int) + 1 by omega]; rfl
      rw [hsu] at hkid
      have S2 := HK.out.2.2.2.2.2.upd 0 (oZw (.slice (some ⟨pd, 0, none⟩) 6 6) ((rootN 8 (rangeI 1 (i + 1)), .slice (some ⟨g6, 0, none⟩) (i + 1) cap2) :: d5Z size)) rfl hkid.2.1 hkid.2.2 hkid.1
      have HS2 := Lib.hid S2
      clear d4 f4 hkid e4 hrl hP5 hsu S2 HG HK
      go_wp2_with fail
      go_roundg g
      case measure => omega
      case rel => exact ⟨i + 1, _, by omega, by go_num, HS2.out⟩
    · obtain rfl : gk = 0 := by omega
      obtain rfl : i = 6 := by omega
      have hnlt : ¬ ((6 : Nat) : Int) < 6 := by omega
      obtain ⟨e4, -, -⟩ := first_kids (S.get 1 rfl : ZwP wr (.slice (some ⟨pw, 0, none⟩) 4 cw) ((rootN 7 [1, 2, 3], .slice (some ⟨pk, 0, none⟩) 3 ck) :: Zt))
      have HS := Lib.hid S
      clear S hP
      go_wp2_with fail
      clear e4
      go_loopg [8, 48] 3 (fun g v8 iv wr => ∃ i : Nat, g + i = 3 ∧ iv = .int .i64 i ∧ Sep W wr [oZw (.slice (some ⟨pd, 0, none⟩) 6 6) ((rootN 8 (rangeI 1 6), kv) :: d5Z size), oZw (.slice (some ⟨pw, 0, none⟩) 4 cw) ((rootN 7 (addK i), .slice (some ⟨pk, 0, none⟩) 3 ck) :: Zt)])
      case atStart => exact ⟨0, by omega, rfl, HS.out⟩
      case round =>
        clear HS
        obtain ⟨i, hgi, rfl, S⟩ := hrel
        have hP : ZwP wr (.slice (some ⟨pw, 0, none⟩) 4 cw) ((rootN 7 (addK i), .slice (some ⟨pk, 0, none⟩) 3 ck) :: Zt) := S.get 1 rfl
        by_cases hlt : i < 3
        · obtain ⟨g, rfl⟩ : ∃ g, gk = g + 1 := ⟨gk - 1, by omega⟩
          have hltz : (i : Int) < 3 := by omega
          obtain ⟨z1, z2, z3⟩ := addK_step i hlt
          obtain ⟨e4, -, -⟩ := first_kids hP
          have hkv : wr.ownsRow 0 3 1 (.slice (some ⟨pk, 0, none⟩) 3 ck) 3 ((addK i).map iz) := by
            have h0 := hP.kids (rootN 7 (addK i), .slice (some ⟨pk, 0, none⟩) 3 ck) (by simp)
            rw [show (rootN 7 (addK i)).kids.length = 3 from z1] at h0
            exact h0
          have e5 := row_cell hkv (i := i) (u := .int .i64 ((i : Int) + 1)) (by rw [List.getElem?_map, z2]; rfl)
          have f5 := row_free hkv i
          have hset := ZwP.set (i := i) (c := (i : Int) + 1 + 6) hP z1 (by omega)
          have hsu : ({ rootN 7 (addK i) with kids := (rootN 7 (addK i)).kids.set i ((i : Int) + 1 + 6) } : Nd) = rootN 7 (addK (i + 1)) := by
            rw [← z3]; rfl
          rw [hsu] at hset
          have S2 := S.upd 1 (oZw (.slice (some ⟨pw, 0, none⟩) 4 cw) ((rootN 7 (addK (i + 1)), .slice (some ⟨pk, 0, none⟩) 3 ck) :: Zt)) rfl hset.2 (fun k hk => .inl hk) hset.1
          have HS2 := Lib.hid S2
          clear hset hsu S2 hkv hP S z1 z2 z3
          go_wp2_with fail
          go_roundg g
          case measure => omega
          case rel => exact ⟨i + 1, by omega, by go_num, HS2.out⟩
        · obtain rfl : gk = 0 := by omega
          obtain rfl : i = 3 := by omega
          have hnlt : ¬ ((3 : Nat) : Int) < 3 := by omega
          have hD : ZwP wr (.slice (some ⟨pd, 0, none⟩) 6 6) ((rootN 8 (rangeI 1 6), kv) :: d5Z size) := S.get 0 rfl
          have hsrc := src_zw hP (by simp)
          rw [List.length_cons, HZt.out.2] at hsrc
          have hsrc : Src Tryz.prog 5 28 (.slice (some ⟨pw, 0, none⟩) 4 cw) 4 (rowN ((rootN 7 (addK 3), .slice (some ⟨pk, 0, none⟩) 3 ck) :: Zt)) wr := hsrc
          have hown : wr.ownsRow 0 47 5 (.slice (some ⟨pd, 0, none⟩) 6 6) 6 (rowN ((rootN 8 (rangeI 1 6), kv) :: d5Z size)) := hD.row
          have HS3 := Lib.hid (⟨S, hP, hD, hsrc, hown⟩ : _ ∧ _ ∧ _ ∧ _ ∧ _)
          clear S hP hD hsrc hown
          go_wp2_with (at_builtin; refine wpList_append_src _ rfl _ _ 28 28 rfl 0 47 j0 _ 5 64 Tryz.underlying28 hjf hy0 hy1 hy2 rfl (by decide) (.slice (some ⟨pd, 0, none⟩) 6 6) 6 _ rfl HS3.out.2.2.2.2 (.slice (some ⟨pw, 0, none⟩) 4 cw) 4 _ rfl HS3.out.2.2.2.1 (by omega) (by unfold maxLen; omega) (by omega) (by omega) ?_; intro g9 cap9 w9 hown1 hgrow1 hat1 hlt1; have P1 := push_plain21 (cap := cap9) (n := 10) hgrow1 hat1; have HG := Lib.hid (⟨hown1, P1, hat1⟩ : _ ∧ _ ∧ _); clear hown1 hgrow1 hat1 hlt1 P1)
          go_ret
          obtain ⟨S3, h8, h9, -, -⟩ := HS3.out
          obtain ⟨hown1, P, hat1⟩ := HG.out
          have hdj : ∀ k ∈ zwF (.slice (some ⟨pw, 0, none⟩) 4 cw) ((rootN 7 (addK 3), .slice (some ⟨pk, 0, none⟩) 3 ck) :: Zt), k ∉ zwF (.slice (some ⟨pd, 0, none⟩) 6 6) ((rootN 8 (rangeI 1 6), kv) :: d5Z size) := fun k hk hk2 => S3.apart 1 0 _ _ rfl rfl (by omega) k hk hk2
          have hg9 : (Value.slice (some ⟨pd, 0, none⟩) 6 6).ownBlock = some g9 ∨ wr.heap.size ≤ g9 := by
            rcases hat1 with h | h
            · exact .inl h
            · exact .inr (by omega)
          have hdu : (kG ((rootN 7 (addK 3), Value.slice (some ⟨pk, 0, none⟩) 3 ck) :: Zt)).Nodup := by
            have := h8.dup
            unfold zwF at this
            exact (List.nodup_append.1 this).2.1
          have hmore := ZwP.more (m := 10) h9 h8.kids hdu (fun k hk => hdj k (List.mem_append_right _ hk)) h8.wf P.1 (by rw [List.length_cons, List.length_cons, HZt.out.2]; rfl) hown1 hg9
          have hn := hmore.nodes
          rw [List.map_append, List.map_cons, List.map_cons, HZt.out.1] at hn
          refine ⟨_, rfl, HXW.out.trans (S3.ext.trans' P.1 (fun k hk hT => ?_)), hn⟩
          have := S3.base (oZw (.slice (some ⟨pd, 0, none⟩) 6 6) ((rootN 8 (rangeI 1 6), kv) :: d5Z size)) (by simp) k (List.mem_append_left _ hT)
          omega
end Go.Proofs.YtkaimeogebgofaaGreatDoor.Xs
