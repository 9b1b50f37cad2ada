/-
  runs.Put: what it tells, as a plain function; pieces and Put walked.
-/
import Derived.Test.YtiadnmhginpgfaaRnB
import Derived.Shelf.Abstract
namespace Go.Proofs.Ytiadnmhginpgfaa.Rn
open Go.RowKit
attribute [local go_sem] Oper.semAt_some

/-! ### plain -/
def enc (x : Piece) : List UInt8 := if x.2 then [UInt8.ofNat (257 - x.1.length), x.1.headD 0] else UInt8.ofNat (x.1.length - 1) :: x.1
def putL (l : List UInt8) : List UInt8 := (pieces l).flatMap enc ++ [128]
theorem pieces_ind {M : List UInt8 → Prop} (h0 : M []) (h1 : ∀ l, 0 < l.length → M (l.drop (cut l)) → M l) : ∀ l, M l := by
  have h : ∀ (k : Nat) (l : List UInt8), l.length ≤ k → M l := by
    intro k
    induction k with
    | zero => intro l hl; obtain rfl : l = [] := List.eq_nil_of_length_eq_zero (by omega); exact h0
    | succ k ih =>
      intro l hl
      by_cases hp : 0 < l.length
      · exact h1 l hp (ih _ (by have := cut_le l hp; simp; omega))
      · obtain rfl : l = [] := List.eq_nil_of_length_eq_zero (by omega); exact h0
  exact fun l => h l.length l (Nat.le_refl _)
theorem pieces_mem : ∀ l, ∀ x ∈ pieces l, 1 ≤ x.1.length ∧ x.1.length ≤ 128 ∧ (x.2 = true → 2 ≤ x.1.length) := by
  refine pieces_ind (by rw [pieces_nil]; simp) (fun l hl ih x hx => ?_)
  rw [pieces_cons l hl] at hx
  rcases List.mem_cons.1 hx with rfl | hx
  · have := cut_le l hl
    refine ⟨by simp; omega, by simp; omega, fun h => ?_⟩
    have h1 : 1 < same l := of_decide_eq_true h
    have h2 := sameF_le l 127 1 rfl hl
    have : cut l = same l := if_pos h1
    simp only [List.length_take]
    unfold same at *
    omega
  · exact ih x hx
theorem pieces_all : ∀ l, (pieces l).flatMap (·.1) = l := by
  refine pieces_ind (by rw [pieces_nil]; rfl) (fun l hl ih => ?_)
  rw [pieces_cons l hl, List.flatMap_cons, ih]
  exact List.take_append_drop _ _
theorem enc_len (x : Piece) (h : 1 ≤ x.1.length) : (enc x).length ≤ 2 * x.1.length := by
  unfold enc; split
  · simp; omega
  · simp; omega
theorem enc_pre (L : List Piece) (h : ∀ x ∈ L, 1 ≤ x.1.length ∧ x.1.length ≤ 128 ∧ (x.2 = true → 2 ≤ x.1.length)) : (L.flatMap enc).length ≤ 2 * (L.flatMap (·.1)).length := by
  induction L with
  | nil => simp
  | cons x L ih =>
    have h1 := h x (by simp)
    have h2 := enc_len x h1.1
    have := ih (fun y hy => h y (by simp [hy]))
    simp only [List.flatMap_cons, List.length_append]
    omega
theorem pre_len (l : List UInt8) (pre post : List Piece) (h : pieces l = pre ++ post) : (pre.flatMap enc).length ≤ 2 * l.length := by
  have h1 := enc_pre pre (fun x hx => pieces_mem l x (by rw [h]; simp [hx]))
  have h2 := congrArg List.length (pieces_all l)
  rw [h, List.flatMap_append, List.length_append] at h2
  omega

/-! ### pieces -/
set_option maxHeartbeats 4000000 in
theorem pieces_walk (s : ByteArray) (w : World) :
    Calls Try.prog 18 #[.string s] w fun e w' => e = .returned (.func (.func 21) #[] #[.pointer (some ⟨w.heap.size, 0, none⟩)]) ∧ w' = w.alloc (bx s) := by
  go_enter Try.func18, Try.ntmps18
  go_wp2_with fail
  go_ret
  exact ⟨rfl, rfl⟩

/-! ### Put -/
theorem infoByte : (Try.prog.info? 5).map (fun i => (i.zero, i.size, i.bytes)) = some (some (.int .u8 0), 1, 1) := by kernel_rfl
/-- a variable that holds a row of bytes -/
def bo (v : Value) : Obj := .cells #[v] 29 (0, 0)
def oOut (b : Nat) (F : List Nat) (l : List UInt8) : Ob where
  F := F
  P := fun w => ∃ v, w.heap[b]? = some (bo v) ∧ w.ownsRow 0 5 1 v l.length (l.map c8) ∧ F = b :: v.ownBlock.toList ∧ v.ownBlock ≠ some b
  ok := fun h hx hS => by
    obtain ⟨v, h1, h2, h3, h4⟩ := h
    exact ⟨v, hx.keep h1 (hS b (by rw [h3]; simp)), ownsRow_ext h2 hx (fun g hg => hS g (by rw [h3]; simp [hg])), h3, h4⟩
  lt := fun h k hk => by
    obtain ⟨v, h1, h2, h3, h4⟩ := h
    rw [h3] at hk
    rcases List.mem_cons.1 hk with rfl | hk
    · exact lt_of_block h1
    · exact (h2.lt k (by simpa using hk)).2
theorem run_text {w : World} {v : Value} {n : Nat} {l : List UInt8} (h : w.ownsRow 0 5 1 v n (l.map c8)) : (convert 29 9 v).run Try.prog w = .ok (.string (Rn.S l)) w := by
  rcases h.2 with ⟨rfl, h0⟩ | ⟨g, cap, cur, rfl, _, hg, hnc, _, hcs, htake⟩
  · have hx : l = [] := by have := h.1; simp [h0] at this; exact this
    subst hx
    exact run_convert_bytes_nil w 29 5 Try.underlying29 Try.underlying5 0 0 9 Try.underlying9
  · have hl : l.length = n := by have := h.1; simpa using this
    have := run_convert_bytes_arg w 29 5 Try.underlying29 Try.underlying5 g 0 n cap (l.map fun b => ((b.toNat : Nat) : Int)) (by simpa using hl) (fun i hi => by
      have := ownsRow_at (i := i) (u := c8 (l.getD i 0)) h (by rw [List.getElem?_map, List.getElem?_eq_getElem (by omega), List.getD_eq_getElem?_getD, List.getElem?_eq_getElem (by omega)]; rfl)
      rw [Nat.zero_add, this]
      simp [c8, List.getD_eq_getElem?_getD]
      cases l[i]? <;> rfl) 9 Try.underlying9
    have e : strOfNums (l.map fun b => ((b.toNat : Nat) : Int)) = Rn.S l := by
      simp only [strOfNums, Rn.S, List.map_map]
      congr 2
      refine (List.map_congr_left (fun b _ => ?_)).trans (List.map_id l)
      simp
    rw [e] at this
    exact this
theorem out_done {w W w2 : World} {b g cap n : Nat} {v : Value} {F R : List Nat} {l l' : List UInt8} (S : Sep w W [oOut b F l, Ob.room R]) (hF : F = b :: v.ownBlock.toList) (hb : W.heap[b]? = some (bo v)) (hne : v.ownBlock ≠ some b)
    (hx : Ext v.ownBlock.toList W w2) (hf : Fr W v.ownBlock.toList [g]) (hn : n = l'.length) (hown : w2.ownsRow 0 5 1 (.slice (some ⟨g, 0, none⟩) n cap) n (l'.map c8)) :
    KeepsT R W (w2.setCell ⟨b, 0, none⟩ (.slice (some ⟨g, 0, none⟩) n cap)) ∧ Sep w (w2.setCell ⟨b, 0, none⟩ (.slice (some ⟨g, 0, none⟩) n cap)) [oOut b [b, g] l', Ob.room R] := by
  subst hF
  subst hn
  have hbl := lt_of_block hb
  have hgb : g ≠ b := fun e => by
    rcases hf g (by simp) with h | h
    · exact hne (by rw [← e]; simpa using h)
    · omega
  have hb2 : w2.heap[b]? = some (bo v) := hx.keep hb (by simpa using hne)
  have hx' : Ext (b :: v.ownBlock.toList) W (w2.setCell ⟨b, 0, none⟩ (.slice (some ⟨g, 0, none⟩) l'.length cap)) := (hx.mono (fun i _ hi => by simp [hi])).setCell _ _ (.inl (by simp))
  refine ⟨KeepsT.of_ext hx' (fun k hk => ⟨S.get 1 rfl k hk, S.apart 1 0 _ _ rfl rfl (by omega) k hk⟩), ?_⟩
  refine S.upd 0 (oOut b [b, g] l') rfl hx' (fun q hq => ?_) ⟨_, heap_setCell_same hb2 _, ownsRow_setCell_other hown (fun e => hgb (by simpa [Value.ownBlock] using e)) _, rfl, fun e => hgb (by simpa [Value.ownBlock] using e)⟩
  rcases List.mem_cons.1 hq with rfl | hq
  · exact .inl (by simp [oOut])
  · obtain rfl : q = g := by simpa using hq
    rcases hf q (by simp) with h | h
    · exact .inl (by simp [oOut]; exact .inr (by simpa using h))
    · exact .inr h
theorem put_two {w W w1 w2 : World} {b g1 g2 cap1 cap2 n m : Nat} {v : Value} {F R : List Nat} {l l' : List UInt8} (S : Sep w W [oOut b F l, Ob.room R]) (hF : F = b :: v.ownBlock.toList) (hb : W.heap[b]? = some (bo v)) (hne : v.ownBlock ≠ some b)
    (P1 : Ext v.ownBlock.toList W w1 ∧ Fr W v.ownBlock.toList (Value.slice (some ⟨g1, 0, none⟩) n cap1).ownBlock.toList) (hg : w1.grownBy w2 (Value.slice (some ⟨g1, 0, none⟩) n cap1).ownBlock) (hat : (Value.slice (some ⟨g1, 0, none⟩) n cap1).ownBlock = some g2 ∨ g2 = w1.heap.size)
    (hown : w2.ownsRow 0 5 1 (.slice (some ⟨g2, 0, none⟩) m cap2) m (l'.map c8)) (hm : m = l'.length) :
    w2.heap[b]? = some (bo v) ∧ KeepsT R W (w2.setCell ⟨b, 0, none⟩ (.slice (some ⟨g2, 0, none⟩) m cap2)) ∧ Sep w (w2.setCell ⟨b, 0, none⟩ (.slice (some ⟨g2, 0, none⟩) m cap2)) [oOut b [b, g2] l', Ob.room R] := by
  have hx2 : Ext [g1] w1 w2 := ((Ext.refl _ w1).grown hg (fun k hk => .inl (by simpa [Value.ownBlock] using hk.symm)))
  have hx : Ext v.ownBlock.toList W w2 := ext_fr P1.1 hx2 P1.2
  have hf : Fr W v.ownBlock.toList [g2] := fun q hq => by
    obtain rfl : q = g2 := by simpa using hq
    rcases hat with h | h
    · exact P1.2 q (by simp [h])
    · exact .inr (by have := P1.1.size; omega)
  exact ⟨hx.keep hb (by simpa using hne), out_done S hF hb hne hx hf hm hown⟩
theorem grown_ext {w w1 : World} {O : Obj} {v : Value} (h : (w.alloc O).drew.grownBy w1 v.ownBlock) : (w.alloc O).grownBy w1 v.ownBlock := ⟨h.os, h.tape, h.output, h.size, h.block⟩
theorem enc_many (p : List UInt8) (h1 : 2 ≤ p.length) (h2 : p.length ≤ 128) (h0 : 0 < (Rn.S p).size) : (enc (p, true)).map c8 = [.int .u8 (257 - (p.length : Int)), .int .u8 (((Rn.S p)[0]'h0).toNat : Int)] := by
  unfold enc c8
  have b0 := B_get (Rn.S p) 0 h0
  rw [B_S] at b0
  cases p with
  | nil => simp at h1
  | cons a p =>
    have e : a = (Rn.S (a :: p))[0]'h0 := by simpa using b0
    have e2 : (((UInt8.ofNat (257 - (a :: p).length)).toNat : Nat) : Int) = 257 - ((a :: p).length : Int) := by
      rw [UInt8.toNat_ofNat']; omega
    simp only [if_true, List.map_cons, List.map_nil, List.headD_cons, e2]
    rw [← e]
theorem enc_plain (p : List UInt8) (h1 : 1 ≤ p.length) (h2 : p.length ≤ 128) : (enc (p, false)).map c8 = .int .u8 ((p.length : Int) - 1) :: byteCells (Rn.S p) := by
  unfold enc c8
  have e2 : (((UInt8.ofNat (p.length - 1)).toNat : Nat) : Int) = (p.length : Int) - 1 := by
    rw [UInt8.toNat_ofNat']; omega
  simp only [List.map_cons, e2, Bool.false_eq_true, if_false]
  rfl
set_option maxRecDepth 100000 in
set_option maxHeartbeats 8000000 in
theorem put_walk (s : ByteArray) (w : World) (hs : s.size ≤ 1048576) :
    Calls Try.prog 10 #[.string s] w fun e w' => e = .returned (.string (S (putL (B s)))) ∧ Ext [] w w' := by
  obtain ⟨i0, hi, hz0, hz1, hz2⟩ := info_parts infoByte
  have S0 : Sep w (w.alloc (bo (.slice none 0 0))) [oOut w.heap.size [w.heap.size] []] :=
    (Sep.start w).new ((Ext.refl _ w).alloc _) (oOut w.heap.size [w.heap.size] []) ⟨.slice none 0 0, heap_alloc_at _, World.ownsRow_nil _ _ _ _, rfl, by simp [Value.ownBlock]⟩ (fun k hk => by rw [List.mem_singleton.1 hk]; exact Nat.le_refl _)
  have H0 := Lib.hid S0
  have HS := Lib.hid hs
  clear S0 hs
  refine (callsIn_wide (n := 0)).1 (callsIn_of_wp_marks Try.func10 rfl trivial ((wpIn_wide (n := 0)).2 ?_))
  simp only [Try.ntmps10, List.size_toArray, List.length_cons, List.length_nil, Nat.reduceAdd, Nat.reduceSub, Array.replicate_succ, Array.replicate_zero, List.push_toArray, List.append_toArray, List.nil_append, List.cons_append]
  go_wp2_with fail
  refine (pieces_walk s _).mono ?_
  rintro e w1 ⟨rfl, rfl⟩
  go_wp2_with fail
  refine wp_range (gf := 21) (lb := #[.pointer (some ⟨w.heap.size + 1, 0, none⟩)]) rfl (Go.Proofs.enters_of Try.func21 (by kernel_rfl) rfl) (iter_walk s (w.heap.size + 1) (by have := HS.out; unfold maxLen; omega)) (fun _ => rfl)
    (w.heap.size + 2) (w.heap.size + 3) (by simp) (by simp) (by simp) (by simp) (fun W hx => hx.keep (by have := World.alloc_heap_new (w.alloc (bo (.slice none 0 0))) (bx s); rwa [World.size_alloc] at this) (by simp))
    (fun pre W => ∃ F, Sep w W [oOut w.heap.size F (pre.flatMap enc), Ob.room [w.heap.size + 2, w.heap.size + 3, w.heap.size + 1]]) (fun _ _ _ => False)
    (fun p A B h hx => by obtain ⟨F, S⟩ := h; exact ⟨F, S.upd 1 (Ob.room [w.heap.size + 2, w.heap.size + 3, w.heap.size + 1]) rfl hx (Fr.refl _ _) (fun k hk => Nat.lt_of_lt_of_le (S.get 1 rfl k hk) hx.size)⟩)
    (fun _ _ _ _ h _ => h)
    (fun W hx hw => by
      have hx' : Ext [] (w.alloc (bo (.slice none 0 0))) W := ((Ext.refl _ _).alloc _).trans hx
      have S := H0.out.new hx' (Ob.room [w.heap.size + 2, w.heap.size + 3, w.heap.size + 1]) (fun k hk => by simp at hk hw; omega) (fun k hk => by simp [Ob.room] at hk ⊢; omega)
      exact ⟨[w.heap.size], ⟨S.ext, fun o ho => S.each o (by simp at ho ⊢; rcases ho with h | h <;> simp [h]), fun o ho => S.base o (by simp at ho ⊢; rcases ho with h | h <;> simp [h]), fun i j a b ha hb hij => by
        have sw : ∀ (i : Nat) (a : Ob), [oOut w.heap.size [w.heap.size] [], Ob.room [w.heap.size + 2, w.heap.size + 3, w.heap.size + 1]][i]? = some a → [Ob.room [w.heap.size + 2, w.heap.size + 3, w.heap.size + 1], oOut w.heap.size [w.heap.size] []][1 - i]? = some a ∧ i < 2 := fun i a h => by
          match i, h with
          | 0, h => exact ⟨h, by omega⟩
          | 1, h => exact ⟨h, by omega⟩
        have h1 := sw i a ha
        have h2 := sw j b hb
        exact S.apart (1 - i) (1 - j) a b h1.1 h2.1 (by omega)⟩⟩)
    (fun x => { tmps := #[.string s, undef, .string { data := #[] }, .pointer (some { block := w.heap.size, off := 0 }), .string (Rn.S x.1), .bool x.2, .string s, .func (.func 21) #[] #[.pointer (some ⟨w.heap.size + 1, 0, none⟩)], .string (Rn.S x.1), .bool x.2, undef, undef, undef, undef, undef, undef, undef, undef, undef, undef, undef, undef, undef, undef, undef, undef, undef, undef, undef, undef, undef, undef, undef], defers := [] }) ?assign ?body ?done ?stop
  case assign =>
    intro x W K hK
    unfold encs
    gi_wp2_with fail
    exact hK
  case stop => exact fun _ _ _ _ _ _ h _ => h.elim
  case body =>
    rintro pre ⟨p, m⟩ post W hxs ⟨F, S⟩
    have hm := pieces_mem (B s) (p, m) (by rw [hxs]; simp)
    dsimp only at hm
    obtain ⟨hp1, hp2, hp3⟩ := hm
    have hlen := pre_len (B s) pre ((p, m) :: post) hxs
    rw [B_len] at hlen
    have hs1 := HS.out
    obtain ⟨v, hb, hown, hF, hne⟩ := S.get 0 rfl
    generalize hn0 : (pre.flatMap enc).length = n0 at hown hlen
    have hn1 : n0 ≤ 2097152 := by omega
    have Hn0 := Lib.hid hn0
    have HSep := Lib.hid S
    have HF := Lib.hid hF
    clear hn0 S hF hxs hlen hs1 H0 HS
    have hpsz : (Rn.S p).size = p.length := by rw [← B_len, B_S]
    cases m with
    | true =>
      have hp3 := hp3 rfl
      have hp0 : 0 < (Rn.S p).size := by omega
      have henc := enc_many p hp3 hp2 hp0
      have HE := Lib.hid henc
      clear henc
      have i1 : (0 : Int) < (p.length : Int) := by omega
      have i2 : 0 < p.length := by omega
      gi_wp2_with fail
      refine rnd_mid (C := fun w' => ∃ x : ExS v.ownBlock.toList W, w' = x.w) 7 2 (by kernel_rfl) (by kernel_rfl) (by kernel_rfl) (fun ⟨_, _, h⟩ => h) ⟨ExS.mk _ ((Ext.refl _ W).drew), rfl⟩ ?_
      simp only [List.take_succ_cons, List.take_zero, List.drop_succ_cons, List.drop_zero]
      have c0 : ∀ x : ExS v.ownBlock.toList W, x.w.cell? ⟨w.heap.size, 0, none⟩ = some v := fun x => cellOf (x.heap hb (by simpa using hne)) 0
      repeat (go_big_quiet_step (fail))
      refine wpQuiet_nil ?_
      refine midW_step rfl (fun K hK => ?_)
      go_wp2_with fail
      refine ⟨⟨ExS.mk _ ((Ext.refl _ W).drew.alloc _), rfl⟩, ?_⟩
      refine midW_step rfl (fun K hK => ?_)
      refine wp_append_lies _ _ _ 29 rfl 0 5 i0 _ 1 1 Try.underlying29 hi hz0 hz1 hz2 rfl (by decide) v n0 _ rfl ((hown.alloc _).drew) ⟨W.heap.size, 0, none⟩ 2 2 [.int .u8 (257 - (p.length : Int)), .int .u8 (((Rn.S p)[0]'hp0).toNat : Int)] rfl rfl (World.news_of_block (w := (W.alloc _).drew) (heap_alloc_at (w := W) _)) (by simp [Value.oneCell']) (by decide) (by unfold maxLen; omega) (by omega) (by omega) (W.heap.size + 1) (by simp) ?_
      intro g cap w2 hown2 hgrow hat hlt
      have P := push_local (cap := cap) (n := n0 + 2) (grown_ext hgrow) hat
      rw [← HE.out, ← List.map_append] at hown2
      have D := out_done (l' := pre.flatMap enc ++ enc (p, true)) HSep.out HF.out hb hne P.1 P.2 (by rw [List.length_append, Hn0.out]; have := congrArg List.length HE.out; simpa using this.symm) hown2
      have HD := Lib.hid D
      have hb2 : w2.heap[w.heap.size]? = some (bo v) := P.1.keep hb (by simpa using hne)
      have d0 := cellOf hb2 0
      have d1 := freeOf hb2 0
      refine hK _ _ ⟨⟨ExS.mk w2 P.1, rfl⟩, ?_⟩
      clear hK K c0 P D hb2 hgrow hat hlt hown hown2
      refine midW_nil ?_
      go_wp2_with fail
      refine NoPanic.normal ?_
      gi_wp2_with fail
      exact ⟨HD.out.1, _, by simpa using HD.out.2⟩
    | false =>
      have henc := enc_plain p hp1 hp2
      have HE := Lib.hid henc
      clear hp3 henc
      gi_wp2_with (refine wpListIn_hid (fun ⟨_, _, h⟩ => h) rfl ?_)
      refine Lib.hid ?_
      have c0 := cellOf hb 0
      go_wp2_with (first
        | (at_builtin; refine wpList_append_lies _ rfl _ _ 29 rfl 0 5 i0 _ 1 1 Try.underlying29 hi hz0 hz1 hz2 rfl (by decide) v n0 _ rfl (hown.alloc _) ⟨W.heap.size, 0, none⟩ 1 1 [.int .u8 ((p.length : Int) - 1)] rfl rfl (World.news_of_block (heap_alloc_at (w := W) _)) (by simp [Value.oneCell']) (by decide) (by unfold maxLen; omega) (by omega) (by omega) (W.heap.size + 1) (by simp) ?_; intro g1 cap1 w1 hown1 hgrow1 hat1 hlt1)
        | (at_builtin; refine wpList_append_src _ rfl _ _ 29 9 rfl 0 5 i0 _ 1 1 Try.underlying29 hi hz0 hz1 hz2 rfl (by decide) (.slice (some ⟨g1, 0, none⟩) (n0 + 1) cap1) (n0 + 1) _ rfl hown1 (.string (Rn.S p)) (Rn.S p).size (byteCells (Rn.S p)) rfl (Src.ofString _ Try.underlying9 _) (by omega) (by unfold maxLen; omega) (by omega) (by omega) ?_; intro g2 cap2 w2 hown2 hgrow2 hat2 hlt2; have P1 := push_local (cap := cap1) (n := n0 + 1) hgrow1 hat1; have D := put_two HSep.out HF.out hb hne P1 hgrow2 hat2 (by rw [List.append_assoc, List.singleton_append, ← HE.out, ← List.map_append] at hown2; exact hown2) (by rw [List.length_append, Hn0.out]; have := congrArg List.length HE.out; simp only [List.length_map, List.length_cons, byteCells_length] at this; omega); have HD := Lib.hid D; have hb2 := D.1; have d0 := cellOf hb2 0; have d1 := freeOf hb2 0; clear P1 D hb2 hgrow1 hgrow2 hat1 hat2 hlt1 hlt2 hown hown1 hown2 hb c0))
      gi_wp2_with fail
      have D := HD.out
      rw [hpsz] at D
      exact ⟨D.2.1, _, by simpa using D.2.2⟩
  case done =>
    rintro W ⟨F, S⟩ hD
    have hall := pre_len (B s) (pieces (B s)) [] (by simp)
    rw [B_len] at hall
    have hs1 := HS.out
    obtain ⟨v, hb, hown, hF, hne⟩ := S.get 0 rfl
    generalize hn0 : ((pieces (B s)).flatMap enc).length = n0 at hown hall
    have hn1 : n0 ≤ 2097152 := by omega
    have Hn0 := Lib.hid hn0
    have HSep := Lib.hid S
    have HF := Lib.hid hF
    have HD := Lib.hid hD
    clear hn0 S hF hall hs1 H0 HS hD
    have c0 := cellOf hb 0
    go_wp2_with (at_builtin; refine wpList_append_lies _ rfl _ _ 29 rfl 0 5 i0 _ 1 1 Try.underlying29 hi hz0 hz1 hz2 rfl (by decide) v n0 _ rfl (hown.alloc _) ⟨W.heap.size, 0, none⟩ 1 1 [.int .u8 128] rfl rfl (World.news_of_block (heap_alloc_at (w := W) _)) (by simp [Value.oneCell']) (by decide) (by unfold maxLen; omega) (by omega) (by omega) (W.heap.size + 1) (by simp) ?_; intro g1 cap1 w1 hown1 hgrow1 hat1 hlt1; rw [show [Value.int .u8 128] = [(128 : UInt8)].map c8 from rfl, ← List.map_append] at hown1; have hct := run_text hown1; have P1 := push_local (cap := cap1) (n := n0 + 1) hgrow1 hat1; have HP := Lib.hid P1; clear P1 hown1 hgrow1 hat1 hlt1 hown c0)
    have hx : Ext F W w1 := HP.out.1.mono (fun i _ hi => by rw [HF.out]; simp [hi])
    have hD1 : w1.heap[w.heap.size + 2]? = some (.deferred (some [])) := hx.keep HD.out (HSep.out.apart 1 0 _ _ rfl rfl (by omega) _ (by simp [Ob.room]))
    refine ⟨by simp, .inl ⟨_, _, rfl, run_takeDeferred hD1, ?_⟩⟩
    refine ⟨_, results_tmp rfl _ _ _, rfl, ?_⟩
    exact (HSep.out.ext.trans' hx (fun k hk hkF => by have := HSep.out.base (oOut w.heap.size F ((pieces (B s)).flatMap enc)) (by simp) k hkF; omega)).trans' (Ext.putObj _ _ _) (fun k hk hkF => by simp at hkF; omega)
end Go.Proofs.Ytiadnmhginpgfaa.Rn
