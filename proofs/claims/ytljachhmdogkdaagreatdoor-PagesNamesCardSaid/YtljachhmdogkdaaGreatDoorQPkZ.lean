/-
 Texts PkZ, as far as the statement needs them.
-/
import Derived.Test.YtljachhmdogkdaaGreatDoorQPkU
import Derived.Test.YtljachhmdogkdaaGreatDoorQPkW
import Derived.Test.YtljachhmdogkdaaGreatDoorQPkX
import Derived.Test.YtljachhmdogkdaaGreatDoorQPkY
namespace Go.Proofs.YtljachhmdogkdaaGreatDoor.Tr
open Go.RowKit
end Go.Proofs.YtljachhmdogkdaaGreatDoor.Tr
namespace Go.Proofs.YtljachhmdogkdaaGreatDoor.Tr
open Go.RowKit
end Go.Proofs.YtljachhmdogkdaaGreatDoor.Tr
namespace Go.Proofs.YtljachhmdogkdaaGreatDoor.Tr
open Go.RowKit
def posN : Nat → List (List Nd) → List Int
 | _, [] => []
 | b, x :: r => (b : Int) :: posN (b + x.length) r
def bodyN : Nat → List (List Nd) → List Nd
 | _, [] => []
 | b, x :: r => x.map (moveN (b : Int)) ++ bodyN (b + x.length) r
def lenN : List (List Nd) → Nat
 | [] => 0
 | x :: r => x.length + lenN r
def wholeN (kind : Int) (ls : List (List Nd)) : List Nd := rootN kind (posN 1 ls) :: bodyN 1 ls
theorem body_len : ∀ (r : List (List Nd)) (b : Nat), (bodyN b r).length = lenN r
 | [], _ => rfl
 | x :: r, b => by rw [bodyN, lenN, List.length_append, List.length_map, body_len r]
theorem under_go (kind : Int) : ∀ (r : List (List Nd)) (K : List Int) (M : List Nd), 1 + M.length ≤ 65536 → ∀ W, rootN kind (K ++ posN (1 + M.length) r) :: (M ++ bodyN (1 + M.length) r) = W →
  underF kind r K M = if checkN W = 0 then (W, 0) else ([], checkN W)
 | [], K, M, h, W, hW => by
  rw [posN, bodyN, List.append_nil, List.append_nil] at hW
  rw [underF, hW]
 | x :: r, K, M, h, W, hW => by
  rw [underF]
  split
  ·rename_i h2
   have hl : W.length = 1 + M.length + (x.length + lenN r) := by rw [← hW, List.length_cons, List.length_append, body_len, lenN]; omega
   have hc : checkN W = 3 := by rw [checkN, if_pos (by omega)]
   rw [hc, if_neg (by omega)]
  ·rename_i h2
   have hm : (M ++ x.map (moveN ((1 + M.length : Nat) : Int))).length = M.length + x.length := by simp
   refine under_go kind r _ _ (by rw [hm]; omega) W ?_
   rw [hm, ← hW, posN, bodyN, List.append_assoc, List.append_assoc, List.singleton_append, Nat.add_assoc]
theorem under_is (kind : Int) (ls : List (List Nd)) : underN kind ls = if checkN (wholeN kind ls) = 0 then (wholeN kind ls, 0) else ([], checkN (wholeN kind ls)) :=
 under_go kind ls [] [] (by simp) _ rfl
theorem whole_len (kind : Int) (ls : List (List Nd)) : (wholeN kind ls).length = 1 + lenN ls := by rw [wholeN, List.length_cons, body_len]; omega
end Go.Proofs.YtljachhmdogkdaaGreatDoor.Tr
namespace Go.Proofs.YtljachhmdogkdaaGreatDoor.Tr
open Go.RowKit
def NdPut (l x : List Nd) (p : Nat) : Prop := ∀ a, a < x.length → l[p + a]? = (x[a]?).map (moveN (p : Int))
def NdPuts (l : List Nd) : Nat → List (List Nd) → Prop
 | _, [] => True
 | b, x :: r => NdPut l x b ∧ NdPuts l (b + x.length) r
theorem ndputs_body : ∀ (r : List (List Nd)) (pre : List Nd) (b : Nat), pre.length = b → NdPuts (pre ++ bodyN b r) b r
 | [], _, _, _ => trivial
 | x :: r, pre, b, hb => by
  refine ⟨fun a ha => ?_, ?_⟩
  ·rw [bodyN, List.getElem?_append_right (by omega), show b + a - pre.length = a by omega, List.getElem?_append_left (by rw [List.length_map]; exact ha), List.getElem?_map]
  ·rw [bodyN, ← List.append_assoc]
   exact ndputs_body r _ _ (by rw [List.length_append, List.length_map, hb])
theorem whole_puts (kind : Int) (ls : List (List Nd)) : NdPuts (wholeN kind ls) 1 ls := ndputs_body ls [_] 1 rfl
theorem nd_put {l x : List Nd} {p : Nat} (h : NdPut l x p) {c : Int} (h0 : 0 ≤ c) (h1 : c < (x.length : Int)) : ndAt l (c + p) = moveN (p : Int) (ndAt x c) := by
 obtain ⟨a, rfl⟩ : ∃ a : Nat, c = (a : Int) := ⟨c.toNat, by omega⟩
 rw [ndAt, ndAt, Int.toNat_natCast, show ((a : Int) + (p : Int)).toNat = p + a by omega, List.getD_eq_getElem?_getD, List.getD_eq_getElem?_getD, h a (by omega), List.getElem?_eq_getElem (show a < x.length by omega)]
 rfl
def strictF : Option ByteArray → List Ent → Bool
 | _, [] => true
 | pr, p :: r => belowN pr p.1 && strictF (some p.1) r
theorem move_back (p : Int) (x : List Nd) : (x.map (moveN p)).map (moveN (-p)) = x := by
 rw [List.map_map]
 conv => rhs; rw [← List.map_id x]
 refine List.map_congr_left fun y _ => ?_
 obtain ⟨a, b, c, d, e⟩ := y
 simp only [Function.comp, moveN, id, List.map_map]
 congr 1
 conv => rhs; rw [← List.map_id e]
 refine List.map_congr_left fun k _ => ?_
 simp only [Function.comp, id]
 omega
theorem put_cut {l x : List Nd} {p : Nat} (h : NdPut l x p) (hl : p + x.length ≤ l.length) : ((l.take (p + x.length)).drop p) = x.map (moveN (p : Int)) := by
 refine List.ext_getElem? fun a => ?_
 rcases Nat.lt_or_ge a x.length with q | q
 ·rw [List.getElem?_drop, List.getElem?_take, if_pos (by omega), h a q, List.getElem?_map]
 ·rw [List.getElem?_eq_none (by rw [List.length_drop, List.length_take]; omega), List.getElem?_eq_none (by rw [List.length_map]; exact q)]
theorem subs_go {l : List Nd} {E D : List Int} (hs : shapeN l = some (E, D)) : ∀ (r : List (List Nd)) (b : Nat), NdPuts l b r → b + lenN r = l.length → chainP E (posN b r) b l.length → (posN b r).map (fun k => subN l k.toNat) = r
 | [], _, _, _, _ => rfl
 | x :: r, b, h, hl, hc => by
  rw [lenN] at hl
  rw [posN, chainP] at hc
  have hc2 := hc.2
  rw [Int.toNat_natCast] at hc2
  have he : E.getD b 0 = ((b + x.length : Nat) : Int) := by
   obtain _ | ⟨y, r⟩ := r
   ·rw [posN, chainP] at hc2
    rw [hc2, ← hl]
    rfl
   ·rw [posN, chainP] at hc2
    exact hc2.1.symm
  rw [he] at hc2
  rw [posN, List.map_cons, subs_go hs r _ h.2 (by omega) hc2, Int.toNat_natCast, subN, hs]
  simp only
  rw [he, Int.toNat_natCast, put_cut h.1 (by omega), move_back]
theorem whole_root (kind : Int) (ls : List (List Nd)) : ndAt (wholeN kind ls) 0 = rootN kind (posN 1 ls) := rfl
theorem whole_subs {kind : Int} {ls : List (List Nd)} (h : checkN (wholeN kind ls) = 0) : (posN 1 ls).map (fun k => subN (wholeN kind ls) k.toNat) = ls := by
 have hC := cuts_ok (p := 0) h (by rw [whole_len]; omega)
 have hch := hC.chain
 rw [hC.all] at hch
 obtain ⟨-, -, E, D, hs, -⟩ := check_zero h
 rw [endsN, hs] at hch
 exact subs_go hs ls 1 (whole_puts kind ls) (by rw [whole_len]) hch
theorem pairs_all {l : List Nd} : ∀ (S : List Ent) (b : Nat), NdPuts l b (allN S) → (posN b (allN S)).map (fun k => subN l k.toNat) = allN S → pairsN l (posN b (allN S)) = S ∧ (evensN (posN b (allN S))).map (fun k => (ndAt l k).s) = S.map (·.1)
 | [], _, _, _ => ⟨rfl, rfl⟩
 | p :: S, b, h, hm => by
  rw [allN_cons] at h hm ⊢
  have hn : ndAt l (b : Int) = nameNd p.1 := by
   have := nd_put h.1 (c := 0) (by omega) (by simp)
   rw [Int.zero_add] at this
   rw [this]
   rfl
  rw [posN, posN, List.map_cons, List.map_cons] at hm
  injection hm with h1 h2
  injection h2 with h2 h3
  obtain ⟨r1, r2⟩ := pairs_all S _ h.2.2 h3
  rw [posN, posN, pairsN, evensN, List.map_cons, List.map_cons, hn, r1, r2, h2]
  exact ⟨rfl, rfl⟩
theorem pairs_whole {S : List Ent} (h : checkN (wholeN 8 (allN S)) = 0) : pairsN (wholeN 8 (allN S)) (posN 1 (allN S)) = S := (pairs_all S 1 (whole_puts 8 _) (whole_subs h)).1
end Go.Proofs.YtljachhmdogkdaaGreatDoor.Tr
namespace Go.Proofs.YtljachhmdogkdaaGreatDoor.Tr
open Go.RowKit
theorem bl_irrefl : ∀ x : List UInt8, Op.bytesLess x x = false
 | [] => rfl
 | a :: x => by simp [Op.bytesLess, bl_irrefl x]
theorem bl_trans : ∀ x y z : List UInt8, Op.bytesLess x y = true → Op.bytesLess y z = true → Op.bytesLess x z = true
 | x, [], _, h, _ => by cases x <;> simp [Op.bytesLess] at h
 | _, y :: ys, [], _, h => by simp [Op.bytesLess] at h
 | [], y :: ys, z :: zs, _, _ => rfl
 | a :: x, b :: y, c :: z, h1, h2 => by
  rw [Op.bytesLess, Bool.or_eq_true, Bool.and_eq_true, decide_eq_true_eq, beq_iff_eq] at h1 h2 ⊢
  rcases h1 with h1 | ⟨rfl, h1⟩
  ·rcases h2 with h2 | ⟨rfl, h2⟩
   ·exact .inl (UInt8.lt_trans h1 h2)
   ·exact .inl h1
  ·rcases h2 with h2 | ⟨rfl, h2⟩
   ·exact .inl h2
   ·exact .inr ⟨rfl, bl_trans x y z h1 h2⟩
theorem bl_tri : ∀ x y : List UInt8, Op.bytesLess x y = true ∨ x = y ∨ Op.bytesLess y x = true
 | [], [] => .inr (.inl rfl)
 | [], _ :: _ => .inl rfl
 | _ :: _, [] => .inr (.inr rfl)
 | a :: x, b :: y => by
  rw [Op.bytesLess, Op.bytesLess, Bool.or_eq_true, Bool.or_eq_true, Bool.and_eq_true, Bool.and_eq_true, decide_eq_true_eq, decide_eq_true_eq, beq_iff_eq, beq_iff_eq]
  by_cases h : a < b
  ·exact .inl (.inl h)
  by_cases h' : b < a
  ·exact .inr (.inr (.inl h'))
  obtain rfl : a = b := UInt8.le_antisymm (UInt8.not_lt.1 h') (UInt8.not_lt.1 h)
  rcases bl_tri x y with q | rfl | q
  ·exact .inl (.inr ⟨rfl, q⟩)
  ·exact .inr (.inl rfl)
  ·exact .inr (.inr (.inr ⟨rfl, q⟩))
theorem cb_spec : ∀ (x y : List UInt8), (Lib.compareBytes x y < 0 ↔ Op.bytesLess x y = true) ∧ (Lib.compareBytes x y = 0 ↔ x = y)
 | [], [] => by simp [Lib.compareBytes, Op.bytesLess]
 | [], _ :: _ => by simp [Lib.compareBytes, Op.bytesLess]
 | _ :: _, [] => by simp [Lib.compareBytes, Op.bytesLess]
 | a :: x, b :: y => by
  obtain ⟨h1, h2⟩ := cb_spec x y
  rw [Lib.compareBytes, Op.bytesLess]
  by_cases h : a < b
  ·have hne : a ≠ b := fun e => by subst e; exact UInt8.lt_irrefl a h
   rw [if_pos h]
   simp [h, hne]
  ·rw [if_neg h]
   by_cases h' : b < a
   ·have hne : a ≠ b := fun e => by subst e; exact UInt8.lt_irrefl a h'
    rw [if_pos h']
    simp [h, hne]
   ·obtain rfl : a = b := UInt8.le_antisymm (UInt8.not_lt.1 h') (UInt8.not_lt.1 h)
    rw [if_neg h', h1, h2]
    simp
def ltB (a b : ByteArray) : Prop := Op.bytesLess a.toList b.toList = true
theorem tl_inj {a b : ByteArray} : a.toList = b.toList ↔ a = b := by
 rw [ByteArray.toList_eq, ByteArray.toList_eq]
 constructor
 ·intro h
  obtain ⟨⟨a⟩⟩ := a
  obtain ⟨⟨b⟩⟩ := b
  simp only at h
  rw [h]
 ·rintro rfl; rfl
theorem ltB_irrefl (a : ByteArray) : ¬ ltB a a := fun h => by rw [ltB, bl_irrefl] at h; cases h
theorem ltB_trans {a b c : ByteArray} (h : ltB a b) (h' : ltB b c) : ltB a c := bl_trans _ _ _ h h'
theorem ltB_tri (a b : ByteArray) : ltB a b ∨ a = b ∨ ltB b a := by
 rcases bl_tri a.toList b.toList with h | h | h
 ·exact .inl h
 ·exact .inr (.inl (tl_inj.1 h))
 ·exact .inr (.inr h)
theorem cmpN_lt (a b : ByteArray) : cmpN a b < 0 ↔ ltB a b := by
 rw [cmpN, ltB, ByteArray.toList_eq, ByteArray.toList_eq]
 exact (cb_spec _ _).1
theorem cmpN_zero (a b : ByteArray) : cmpN a b = 0 ↔ a = b := by
 rw [cmpN, (cb_spec _ _).2, ← ByteArray.toList_eq, ← ByteArray.toList_eq, tl_inj]
section
variable {α : Type} (key : α → ByteArray)
theorem insG_perm (x : α) : ∀ R : List α, (insG key x R).Perm (x :: R)
 | [] => List.Perm.refl _
 | y :: R => by
  rw [insG]
  split
  ·exact ((insG_perm x R).cons y).trans (List.Perm.swap x y R)
  ·exact List.Perm.refl _
theorem sortRG_perm : ∀ (r acc : List α), (sortRG key acc r).Perm (acc ++ r)
 | [], acc => by rw [sortRG, List.append_nil]
 | x :: r, acc => by
  rw [sortRG]
  refine (sortRG_perm r _).trans ?_
  refine ((insG_perm key x acc).append_right r).trans ?_
  rw [List.cons_append]
  exact List.perm_middle.symm
theorem sortG_perm (l : List α) : (sortG key l).Perm l := by
 rw [sortG]
 refine (List.reverse_perm _).trans ?_
 have := sortRG_perm key l []
 rwa [List.nil_append] at this
theorem insG_desc (x : α) : ∀ R : List α, R.Pairwise (fun a b => ¬ ltB (key a) (key b)) → (insG key x R).Pairwise (fun a b => ¬ ltB (key a) (key b))
 | [], _ => by simp [insG]
 | y :: R, h => by
  rw [List.pairwise_cons] at h
  rw [insG]
  split
  ·rename_i hlt
   rw [cmpN_lt] at hlt
   rw [List.pairwise_cons]
   refine ⟨fun z hz => ?_, insG_desc x R h.2⟩
   rcases (insG_mem key x R z).1 hz with rfl | hz
   ·exact fun h' => ltB_irrefl _ (ltB_trans h' hlt)
   ·exact h.1 z hz
  ·rename_i hlt
   rw [cmpN_lt] at hlt
   rw [List.pairwise_cons, List.pairwise_cons]
   refine ⟨fun z hz => ?_, h⟩
   rcases List.mem_cons.1 hz with rfl | hz
   ·exact hlt
   ·intro hxz
    rcases ltB_tri (key y) (key x) with q | q | q
    ·exact h.1 z hz (ltB_trans q hxz)
    ·rw [← q] at hxz; exact h.1 z hz hxz
    ·exact hlt q
theorem sortRG_desc : ∀ (r acc : List α), acc.Pairwise (fun a b => ¬ ltB (key a) (key b)) → (sortRG key acc r).Pairwise (fun a b => ¬ ltB (key a) (key b))
 | [], acc, h => h
 | x :: r, acc, h => by
  rw [sortRG]
  exact sortRG_desc r _ (insG_desc key x acc h)
theorem sortG_up (l : List α) : (sortG key l).Pairwise (fun a b => ¬ ltB (key b) (key a)) := by
 rw [sortG, List.pairwise_reverse]
 exact sortRG_desc key l [] List.Pairwise.nil
theorem sort_strict {l : List α} (h : (l.map key).Nodup) : (sortG key l).Pairwise (fun a b => ltB (key a) (key b)) := by
 have h1 := sortG_up key l
 have h2 : ((sortG key l).map key).Nodup := ((sortG_perm key l).map key).nodup_iff.2 h
 rw [List.Nodup, List.pairwise_map] at h2
 exact (h1.and h2).imp fun {a b} hab => by
  rcases ltB_tri (key a) (key b) with q | q | q
  ·exact q
  ·exact absurd q hab.2
  ·exact absurd q hab.1
theorem strict_eq : ∀ {l m : List α}, l.Pairwise (fun a b => ltB (key a) (key b)) → m.Pairwise (fun a b => ltB (key a) (key b)) → l.Perm m → l = m := fun {l m} hl hm hp => by
 refine List.Perm.eq_of_pairwise (le := fun a b => ltB (key a) (key b)) (fun a b _ _ h1 h2 => absurd (ltB_trans h1 h2) (ltB_irrefl _)) hl hm hp
theorem sort_eq {l m : List α} (h : (l.map key).Nodup) (hp : l.Perm m) : sortG key l = sortG key m :=
 strict_eq key (sort_strict key h) (sort_strict key ((hp.map key).nodup_iff.1 h)) (((sortG_perm key l).trans hp).trans (sortG_perm key m).symm)
end
theorem like_false {pr : Option ByteArray} {t : ByteArray} (h : likeN pr t = false) : ∀ s, pr = some s → s ≠ t := by
 rintro s rfl rfl
 simp [likeN] at h
theorem twice_strict : ∀ (S : List Ent) (pr : Option ByteArray), S.Pairwise (fun a b => ¬ ltB b.1 a.1) → (∀ s, pr = some s → ∀ p ∈ S, ¬ ltB p.1 s) → twiceF pr S = false → strictF pr S = true
 | [], _, _, _, _ => rfl
 | x :: r, pr, hS, hp, ht => by
  rw [twiceF, Bool.or_eq_false_iff] at ht
  rw [List.pairwise_cons] at hS
  rw [strictF, Bool.and_eq_true]
  refine ⟨?_, twice_strict r _ hS.2 (fun s hs p hpm => by injection hs with hs; subst hs; exact hS.1 p hpm) ht.2⟩
  cases pr with
  | none => rfl
  | some s =>
   rcases ltB_tri s x.1 with q | q | q
   ·exact q
   ·exact absurd q (like_false ht.1 s rfl)
   ·exact absurd q (hp s rfl x (by simp))
theorem strict_up : ∀ (S : List Ent) (pr : Option ByteArray), strictF pr S = true → S.Pairwise (fun a b => ltB a.1 b.1) ∧ ∀ s, pr = some s → ∀ p ∈ S, ltB s p.1
 | [], _, _ => ⟨List.Pairwise.nil, fun _ _ _ h => by cases h⟩
 | x :: r, pr, h => by
  rw [strictF, Bool.and_eq_true] at h
  obtain ⟨h1, h2⟩ := strict_up r _ h.2
  refine ⟨List.pairwise_cons.2 ⟨fun p hp => h2 x.1 rfl p hp, h1⟩, fun s hs p hp => ?_⟩
  subst hs
  have hsx : ltB s x.1 := h.1
  rcases List.mem_cons.1 hp with rfl | hp
  ·exact hsx
  ·exact ltB_trans hsx (h2 x.1 rfl p hp)
theorem up_nodup {S : List Ent} (h : S.Pairwise (fun a b => ltB a.1 b.1)) : (S.map (·.1)).Nodup := by
 rw [List.Nodup, List.pairwise_map]
 exact h.imp fun {a b} hab e => by rw [e] at hab; exact ltB_irrefl _ hab
theorem up_twice : ∀ (S : List Ent) (pr : Option ByteArray), S.Pairwise (fun a b => ltB a.1 b.1) → (∀ s, pr = some s → ∀ p ∈ S, ltB s p.1) → twiceF pr S = false
 | [], _, _, _ => rfl
 | x :: r, pr, h, hp => by
  rw [List.pairwise_cons] at h
  rw [twiceF, Bool.or_eq_false_iff]
  refine ⟨?_, up_twice r _ h.2 (fun s hs p hpm => by injection hs with hs; subst hs; exact h.1 p hpm)⟩
  cases pr with
  | none => rfl
  | some s =>
   have := hp s rfl x (by simp)
   cases hl : likeN (some s) x.1 with
   | false => rfl
   | true =>
    simp only [likeN, beq_iff_eq] at hl
    rw [tl_inj] at hl
    rw [hl] at this
    exact absurd this (ltB_irrefl _)
theorem twice_iff (P : List Ent) : twiceF none (sortG (·.1) P) = false ↔ (P.map (·.1)).Nodup := by
 constructor
 ·intro h
  have h1 := (strict_up _ none (twice_strict _ none (sortG_up (·.1) P) (by simp) h)).1
  exact ((sortG_perm (·.1) P).map (·.1)).nodup_iff.1 (up_nodup h1)
 ·intro h
  exact up_twice _ none (sort_strict (fun p : Ent => p.1) h) (by simp)
end Go.Proofs.YtljachhmdogkdaaGreatDoor.Tr
namespace Go.Proofs.YtljachhmdogkdaaGreatDoor.Tr
open Go.RowKit
abbrev Up (S : List Ent) : Prop := S.Pairwise (fun a b => ltB a.1 b.1)
def wd (S : List Ent) : List Nd := wholeN 8 (allN S)
def srt (P : List Ent) : List Ent := sortG (fun p : Ent => p.1) P
theorem srt_perm (P : List Ent) : (srt P).Perm P := sortG_perm _ P
theorem srt_up {P : List Ent} (h : (P.map (·.1)).Nodup) : Up (srt P) := sort_strict _ h
theorem srt_eq {P Q : List Ent} (h : (P.map (·.1)).Nodup) (hp : P.Perm Q) : srt P = srt Q := sort_eq _ h hp
theorem srt_self {S : List Ent} (h : Up S) : srt S = S := strict_eq (fun p : Ent => p.1) (srt_up (up_nodup h)) h (srt_perm S)
theorem dictN_of {P : List Ent} (h : (P.map (·.1)).Nodup) : dictN P = if checkN (wd (srt P)) = 0 then (wd (srt P), 0) else ([], checkN (wd (srt P))) := by
 rw [dictN, (twice_iff P).2 h, if_neg (by simp), under_is]
 rfl
theorem dictN_twice {P : List Ent} (h : ¬ (P.map (·.1)).Nodup) : dictN P = ([], 6) := by
 have : twiceF none (sortG (·.1) P) = true := by
  cases ht : twiceF none (sortG (·.1) P) with
  | true => rfl
  | false => exact absurd ((twice_iff P).1 ht) h
 rw [dictN, this, if_pos rfl]
theorem dictN_ok {P : List Ent} (h : (dictN P).2 = 0) : (P.map (·.1)).Nodup ∧ checkN (wd (srt P)) = 0 ∧ dictN P = (wd (srt P), 0) := by
 by_cases hd : (P.map (·.1)).Nodup
 ·rw [dictN_of hd] at h ⊢
  by_cases hc : checkN (wd (srt P)) = 0
  ·exact ⟨hd, hc, by rw [if_pos hc]⟩
  ·rw [if_neg hc] at h
   exact absurd h hc
 ·rw [dictN_twice hd] at h
  cases h
theorem dictN_bad {P : List Ent} (h : (dictN P).2 ≠ 0) : (dictN P).1 = [] := by
 by_cases hd : (P.map (·.1)).Nodup
 ·rw [dictN_of hd] at h ⊢
  by_cases hc : checkN (wd (srt P)) = 0
  ·rw [if_pos hc] at h
   exact absurd rfl h
  ·rw [if_neg hc]
 ·rw [dictN_twice hd]
theorem mem_all : ∀ {S : List Ent} {x : List Nd}, x ∈ allN S ↔ ∃ p ∈ S, x = [nameNd p.1] ∨ x = p.2
 | [], x => by simp [allN]
 | p :: S, x => by rw [allN_cons, List.mem_cons, List.mem_cons, mem_all (S := S)]; simp [or_assoc]
theorem binF_spec {L : List ByteArray} (s : ByteArray) (hL : L.Pairwise ltB) : ∀ (g i j : Nat), i ≤ j → j ≤ L.length → j - i < g → (∀ k, k < i → ltB (L.getD k ⟨#[]⟩) s) → (∀ k, j ≤ k → k < L.length → ¬ ltB (L.getD k ⟨#[]⟩) s) →
  (∀ k, k < binF L s g i j → ltB (L.getD k ⟨#[]⟩) s) ∧ (∀ k, binF L s g i j ≤ k → k < L.length → ¬ ltB (L.getD k ⟨#[]⟩) s)
 | 0, i, j, _, _, hg, _, _ => by omega
 | g + 1, i, j, hij, hj, hg, h1, h2 => by
  have mono : ∀ a b, a < b → b < L.length → ltB (L.getD a ⟨#[]⟩) (L.getD b ⟨#[]⟩) := fun a b hab hb => by
   rw [List.getD_eq_getElem?_getD, List.getElem?_eq_getElem (show a < L.length by omega), List.getD_eq_getElem?_getD, List.getElem?_eq_getElem hb]
   exact List.pairwise_iff_getElem.1 hL a b (by omega) hb hab
  rw [binF]
  split
  ·rename_i hlt
   split
   ·rename_i hc
    rw [cmpN_lt] at hc
    refine binF_spec s hL g _ j (by omega) hj (by omega) (fun k hk => ?_) h2
    rcases Nat.lt_or_ge k ((i + j) / 2) with q | q
    ·exact ltB_trans (mono k _ q (by omega)) hc
    ·obtain rfl : k = (i + j) / 2 := by omega
     exact hc
   ·rename_i hc
    rw [cmpN_lt] at hc
    refine binF_spec s hL g i _ (by omega) (by omega) (by omega) h1 (fun k hk hkl => ?_)
    rcases Nat.lt_or_ge ((i + j) / 2) k with q | q
    ·exact fun h => hc (ltB_trans (mono _ k q hkl) h)
    ·obtain rfl : k = (i + j) / 2 := by omega
     exact hc
  ·rename_i hlt
   obtain rfl : i = j := by omega
   exact ⟨h1, h2⟩
theorem find_at {L : List ByteArray} (hL : L.Pairwise ltB) {i : Nat} {s : ByteArray} (h : L[i]? = some s) : findN L s = i ∧ foundN L s = true := by
 obtain ⟨hi, hs⟩ := List.getElem?_eq_some_iff.1 h
 obtain ⟨h1, h2⟩ := binF_spec s hL (L.length + 1) 0 L.length (by omega) (Nat.le_refl _) (by omega) (by omega) (by omega)
 have hgi : L.getD i ⟨#[]⟩ = s := by rw [List.getD_eq_getElem?_getD, h]; rfl
 have hf : findN L s = i := by
  show binF L s (L.length + 1) 0 L.length = i
  rcases Nat.lt_trichotomy (binF L s (L.length + 1) 0 L.length) i with q | q | q
  ·exfalso
   have h9 := h2 _ (Nat.le_refl _) (by omega)
   generalize binF L s (L.length + 1) 0 L.length = r at q h9
   refine h9 ?_
   rw [List.getD_eq_getElem?_getD, List.getElem?_eq_getElem (show r < L.length by omega), ← hs]
   exact List.pairwise_iff_getElem.1 hL _ i (by omega) hi q
  ·exact q
  ·exfalso
   have := h1 i q
   rw [hgi] at this
   exact ltB_irrefl _ this
 refine ⟨hf, ?_⟩
 rw [foundN, hf, hgi, (cmpN_zero s s).2 rfl]
 simp [hi]
theorem find_none {L : List ByteArray} {s : ByteArray} (h : s ∉ L) : foundN L s = false := by
 rw [foundN]
 by_cases hf : findN L s < L.length
 ·have : L.getD (findN L s) ⟨#[]⟩ ≠ s := fun e => h (by
   rw [List.getD_eq_getElem?_getD, List.getElem?_eq_getElem hf] at e
   rw [← e]
   exact List.getElem_mem hf)
  have h2 : cmpN (L.getD (findN L s) ⟨#[]⟩) s ≠ 0 := fun e => this ((cmpN_zero _ _).1 e)
  rw [decide_eq_false h2, Bool.and_false]
 ·rw [decide_eq_false hf, Bool.false_and]
theorem add_nodup {Q : List Ent} {s : ByteArray} {v : List Nd} (h : (Q.map (·.1)).Nodup) (hs : ∀ p ∈ Q, p.1 ≠ s) : ((Q ++ [(s, v)]).map (·.1)).Nodup := by
 rw [List.map_append, List.nodup_append]
 refine ⟨h, by simp, fun a ha b hb => ?_⟩
 obtain ⟨p, hp, rfl⟩ := List.mem_map.1 ha
 obtain rfl : b = s := by simpa using hb
 exact hs p hp
end Go.Proofs.YtljachhmdogkdaaGreatDoor.Tr
namespace Go.Proofs.YtljachhmdogkdaaGreatDoor.Tr
open Go.RowKit
end Go.Proofs.YtljachhmdogkdaaGreatDoor.Tr
namespace Go.Proofs.YtljachhmdogkdaaGreatDoor.Tr
open Go.RowKit
theorem body_mem : ∀ (ls : List (List Nd)) (b : Nat) (x : Nd), x ∈ bodyN b ls → ∃ l ∈ ls, ∃ y ∈ l, x.s = y.s
 | [], b, x, h => by cases h
 | l :: ls, b, x, h => by
  rw [bodyN, List.mem_append] at h
  rcases h with h | h
  ·obtain ⟨y, hy, rfl⟩ := List.mem_map.1 h
   exact ⟨l, by simp, y, hy, rfl⟩
  ·obtain ⟨l2, h1, h2⟩ := body_mem ls _ x h
   exact ⟨l2, List.mem_cons_of_mem _ h1, h2⟩
theorem whole_lt {kind : Int} {ls : List (List Nd)} (hc : checkN (wholeN kind ls) = 0) (h : ∀ l ∈ ls, ∀ x ∈ l, x.s.size ≤ 1000000) : Lt (wholeN kind ls) := by
 obtain ⟨h0, hn, -⟩ := check_zero hc
 refine ⟨by omega, fun x hx => ?_⟩
 rcases List.mem_cons.1 hx with rfl | hx
 ·exact Nat.zero_le _
 ·obtain ⟨l, hl, y, hy, he⟩ := body_mem ls 1 x hx
  rw [he]
  exact h l hl y hy
theorem wd_lt {S : List Ent} (hc : checkN (wd S) = 0) (h : ∀ p ∈ S, p.1.size ≤ 1000000 ∧ ∀ x ∈ p.2, x.s.size ≤ 1000000) : Lt (wd S) :=
 whole_lt hc fun l hl x hx => by
  obtain ⟨p, hp, hl⟩ := mem_all.1 hl
  rcases hl with rfl | rfl
  ·obtain rfl : x = nameNd p.1 := by simpa using hx
   exact (h p hp).1
  ·exact (h p hp).2 x hx
end Go.Proofs.YtljachhmdogkdaaGreatDoor.Tr
