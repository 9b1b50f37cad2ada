/-
 Texts PkA, as far as the statement needs them.
-/
import Derived.Test.YtljachhmdogkdaaGreatDoorProg
import Derived.WalkKit
import Derived.WalkLawsBesides
import Derived.WalkSpells
import Derived.Deep.QuietTactic
import Derived.BigQuiet
import Derived.Deep.LoopGhost
import Derived.KernelRfl
import Derived.Lib.Hide
import Derived.StillTail
import Derived.OrdersHeld
import Derived.Deep.RegionHeld3
import Derived.Deep.AppendLies
import Derived.Deep.AppendSrc
import Derived.RangeFuncLeaves
import Derived.RangeFuncRecord
import Derived.RangeFuncSeq
import Derived.OrdersIn
set_option maxRecDepth 100000
set_option maxHeartbeats 64000000
namespace Go.Proofs.YtljachhmdogkdaaGreatDoor
theorem zz{p:Prop} (h:p):Go.RowKit.Hid p:=h
theorem zz2{p0 p1:Prop} (h:p0∧p1):Go.RowKit.Hid (p0∧p1):=h
theorem zz3{p0 p1 p2:Prop} (h:p0∧p1∧p2):Go.RowKit.Hid (p0∧p1∧p2):=h
theorem zz4{p0 p1 p2 p3:Prop} (h:p0∧p1∧p2∧p3):Go.RowKit.Hid (p0∧p1∧p2∧p3):=h
theorem zz5{p0 p1 p2 p3 p4:Prop} (h:p0∧p1∧p2∧p3∧p4):Go.RowKit.Hid (p0∧p1∧p2∧p3∧p4):=h
theorem zz6{p0 p1 p2 p3 p4 p5:Prop} (h:p0∧p1∧p2∧p3∧p4∧p5):Go.RowKit.Hid (p0∧p1∧p2∧p3∧p4∧p5):=h
theorem zz7{p0 p1 p2 p3 p4 p5 p6:Prop} (h:p0∧p1∧p2∧p3∧p4∧p5∧p6):Go.RowKit.Hid (p0∧p1∧p2∧p3∧p4∧p5∧p6):=h
theorem zz8{p0 p1 p2 p3 p4 p5 p6 p7:Prop} (h:p0∧p1∧p2∧p3∧p4∧p5∧p6∧p7):Go.RowKit.Hid (p0∧p1∧p2∧p3∧p4∧p5∧p6∧p7):=h
theorem zz9{p0 p1 p2 p3 p4 p5 p6 p7 p8:Prop} (h:p0∧p1∧p2∧p3∧p4∧p5∧p6∧p7∧p8):Go.RowKit.Hid (p0∧p1∧p2∧p3∧p4∧p5∧p6∧p7∧p8):=h
theorem zz11{p0 p1 p2 p3 p4 p5 p6 p7 p8 p9 p10:Prop} (h:p0∧p1∧p2∧p3∧p4∧p5∧p6∧p7∧p8∧p9∧p10):Go.RowKit.Hid (p0∧p1∧p2∧p3∧p4∧p5∧p6∧p7∧p8∧p9∧p10):=h
theorem zz12{p0 p1 p2 p3 p4 p5 p6 p7 p8 p9 p10 p11:Prop} (h:p0∧p1∧p2∧p3∧p4∧p5∧p6∧p7∧p8∧p9∧p10∧p11):Go.RowKit.Hid (p0∧p1∧p2∧p3∧p4∧p5∧p6∧p7∧p8∧p9∧p10∧p11):=h
open Go.RowKit
structure Ext (S:List Nat) (w w' : World):Prop where
 os:w'.os=w.os
 tape:w'.tape=w.tape
 output:w'.output=w.output
 size:w.heap.size≤w'.heap.size
 block:∀ k,k<w.heap.size→k∉S→w'.heap[k]? = w.heap[k]?
namespace Ext
theorem refl (S:List Nat) (w:World):Ext S w w:=⟨rfl,rfl,rfl,Nat.le_refl _,fun _ _ _=>rfl⟩
theorem trans {S:List Nat} {a b c:World} (h:Ext S a b) (k:Ext S b c):Ext S a c:=
 ⟨k.os.trans h.os,k.tape.trans h.tape,k.output.trans h.output,Nat.le_trans h.size k.size,
  fun i hi hS=>(k.block i (Nat.lt_of_lt_of_le hi h.size) hS).trans (h.block i hi hS)⟩
theorem trans' {S T:List Nat} {a b c:World} (h:Ext S a b) (k:Ext T b c) (hT:∀ i,i<a.heap.size→i∈T→i∈S):Ext S a c:=
 ⟨k.os.trans h.os,k.tape.trans h.tape,k.output.trans h.output,Nat.le_trans h.size k.size,
  fun i hi hS=>(k.block i (Nat.lt_of_lt_of_le hi h.size) (fun q=>hS (hT i hi q))).trans (h.block i hi hS)⟩
theorem mono {S T:List Nat} {a b:World} (h:Ext S a b) (hT:∀ i,i<a.heap.size→i∈S→i∈T):Ext T a b:=
 ⟨h.os,h.tape,h.output,h.size,fun i hi hS=>h.block i hi (fun q=>hS (hT i hi q))⟩
theorem weak {S:List Nat} {a b:World} (h:Ext [] a b):Ext S a b:=h.mono (by simp)
theorem drew {S:List Nat} {a w:World} (h:Ext S a w):Ext S a w.drew:=⟨h.os,h.tape,h.output,h.size,h.block⟩
theorem drewN {S:List Nat} {a w:World} (h:Ext S a w) (n:Nat):Ext S a (w.drewN n):=⟨h.os,h.tape,h.output,h.size,h.block⟩
theorem alloc {S:List Nat} {a w:World} (h:Ext S a w) (o:Obj):Ext S a (w.alloc o):=
 h.trans ⟨rfl,rfl,rfl,by simp,fun k hk _=>Below.heap_alloc _ _ _ hk⟩
theorem setCell {S:List Nat} {a w:World} (h:Ext S a w) (p:Addr) (u:Value) (hp:p.block∈S∨a.heap.size≤p.block):Ext S a (w.setCell p u):=
 ⟨h.os,h.tape,h.output,by have:=h.size; simp [World.setCell]; omega,fun k hk hS=>by
  rw [Below.heap_setCell _ _ _ _ (by rcases hp with hp | hp; exact fun e=>hS (e ▸ hp); omega)]; exact h.block k hk hS⟩
theorem keep {S:List Nat} {w w' : World} (h:Ext S w w') {b:Nat} {o:Obj} (hb:w.heap[b]? = some o) (hS:b∉S):w'.heap[b]? = some o:=
 (h.block b (lt_of_block hb) hS).trans hb
end Ext
theorem cellOf {w:World} {b:Nat} {cs:Array Value} {t:TypeId} {f:Nat×Nat} (h:w.heap[b]? = some (.cells cs t f)) (i:Nat):w.cell? ⟨b,i,none⟩=cs[i]?:=by
 simp [World.cell?,h]
theorem freeOf {w:World} {b:Nat} {cs:Array Value} {t:TypeId} (h:w.heap[b]? = some (.cells cs t (0,0))) (i:Nat):w.frozen? ⟨b,i,none⟩=false:=by
 simp [World.frozen?,h]
theorem heap_setCell_same {w:World} {b i:Nat} {cs:Array Value} {t:TypeId} {f:Nat×Nat} (h:w.heap[b]? = some (.cells cs t f)) (u:Value) :
  (w.setCell ⟨b,i,none⟩ u).heap[b]? = some (.cells (cs.setIfInBounds i u) t f):=by
 have hlt:=lt_of_block h
 have h' : w.heap[b]=.cells cs t f:=by simpa [Array.getElem?_eq_getElem hlt] using h
 show (w.heap.modify b _)[b]? = _
 rw [Array.getElem?_eq_getElem (by simpa using hlt),Array.getElem_modify_self,h']
 simp
theorem heap_setCell_ne {w:World} {b:Nat} {p:Addr} (u:Value) (h:b≠p.block):(w.setCell p u).heap[b]? = w.heap[b]?:=Below.heap_setCell _ _ _ _ h
theorem heap_alloc_old {w:World} {b:Nat} {x:Obj} (o:Obj) (h:w.heap[b]? = some x):(w.alloc o).heap[b]? = some x:=
 (Below.heap_alloc _ _ _ (lt_of_block h)).trans h
theorem heap_alloc_at {w:World} (o:Obj):(w.alloc o).heap[w.heap.size]? = some o:=by
 show (w.heap.push o)[w.heap.size]? = _
 simp
theorem heap_drew {w:World} {b:Nat}:w.drew.heap[b]? = w.heap[b]?:=rfl
def Ex (w:World):Type:={ w' : World // Ext [] w w' }
def Ex.w {w:World} (x:Ex w):World:=x.val
theorem Ex.ext {w:World} (x:Ex w):Ext [] w x.w:=x.property
def Ex.mk {w:World} (w' : World) (h:Ext [] w w'):Ex w:=⟨w',h⟩
instance (w:World):Nonempty (Ex w):=⟨Ex.mk w (Ext.refl [] w)⟩
theorem Ext.cell {w w' : World} (h:Ext [] w w') {a:Addr} {v:Value} (hc:w.cell? a=some v):w'.cell? a=some v:=
 (World.cell?_of_block (h.block a.block (World.block_lt_of_cell? w a hc) (by simp))).trans hc
theorem Ex.cell {w:World} (x:Ex w) {a:Addr} {v:Value} (hc:w.cell? a=some v):x.w.cell? a=some v:=Ext.cell x.ext hc
theorem Ex.free {w:World} (x:Ex w) {a:Addr} {v:Value} {f:Bool} (hc:w.cell? a=some v) (hf:w.frozen? a=f):x.w.frozen? a=f:=
 (World.frozen?_of_block (x.ext.block a.block (World.block_lt_of_cell? w a hc) (by simp))).trans hf
theorem wp_region_ext {P:Program} {id:Nat} {Q:Exit→Act→World→Prop} {a:Act} {w:World} {l:List Oper} (hm:P.follows .mixedOrders=true) (hB:Region.lexB .any l.toArray=true)
  (h:wpQuiet P l.toArray (fun w'=>∃ x:Ex w,w' = x.w) (fun a'=>∀ w',(∃ x:Ex w,w' = x.w)→Q .normal a' w') l a):(Code.region id l.toArray true).wp P Q a w:=
 wp_region_quiet (C:=fun w'=>∃ x:Ex w,w' = x.w) hm hB ⟨Ex.mk _ ((Ext.refl [] w).drew),rfl⟩ (by simpa using h)
theorem Calls.ext_of {P:Program} {f:FuncId} {args:Array Value} {w:World} {x:Ex w} {v:Value}
  (h:Calls P f args x.w fun e w'=>e=.returned v∧Ext [] x.w w'):Calls P f args x.w fun e w''=>e=.returned v∧∃ y:Ex w,w'' = y.w:=
 h.mono fun _ _ ⟨he,hm⟩=>⟨he,Ex.mk _ (x.ext.trans hm),rfl⟩
theorem ownsRow_ext {S:List Nat} {w w' : World} {e:TypeId} {k n:Nat} {v:Value} {xs:List Value} (h:w.ownsRow 0 e k v n xs) (hx:Ext S w w') (hS:∀ g,v.ownBlock=some g→g∉S):w'.ownsRow 0 e k v n xs:=by
 refine⟨h.1,?_⟩
 rcases h.2 with hn | ⟨g,cap,cur,rfl,hb,hgg,rest⟩
 ·exact .inl hn
 ·exact .inr ⟨g,cap,cur,rfl,hb,hx.keep hgg (hS g rfl),rest⟩
theorem Ext.grown {S:List Nat} {a w w' : World} {row:Option Nat} (h:Ext S a w) (hg:w.grownBy w' row) (hr:∀ k,row=some k→k∈S∨a.heap.size≤k):Ext S a w':=
 ⟨hg.os.trans h.os,hg.tape.trans h.tape,hg.output.trans h.output,Nat.le_trans h.size hg.size,fun k hk hS=>
  (hg.block k (Nat.lt_of_lt_of_le hk h.size) (fun e=>by rcases hr k e.symm with q | q; exact hS q; omega)).trans (h.block k hk hS)⟩
theorem grown_keep {w w' : World} {row:Option Nat} (hg:w.grownBy w' row) {b:Nat} {o:Obj} (hb:w.heap[b]? = some o) (h:row≠some b):w'.heap[b]? = some o:=
 (hg.block b (lt_of_block hb) (fun e=>h e.symm)).trans hb
def Fr (w:World) (F F' : List Nat):Prop:=∀ g∈F',g∈F∨w.heap.size≤g
theorem Fr.refl (w:World) (F:List Nat):Fr w F F:=fun _ h=>.inl h
structure Ob where
 F:List Nat
 P:World→Prop
 ok:∀ {S:List Nat} {w w' : World},P w→Ext S w w'→(∀ k∈F,k∉S)→P w'
 lt:∀ {w:World},P w→∀ k∈F,k<w.heap.size
structure Sep (w0 w:World) (l:List Ob):Prop where
 ext:Ext [] w0 w
 each:∀ o∈l,o.P w
 base:∀ o∈l,∀ k∈o.F,w0.heap.size≤k
 apart:∀ (i j:Nat) (o o' : Ob),l[i]? = some o→l[j]? = some o'→i≠j→∀ k∈o.F,k∉o'.F
namespace Sep
theorem start (w:World):Sep w w []:=⟨Ext.refl _ _,by simp,by simp,by simp⟩
theorem get {w0 w:World} {l:List Ob} (h:Sep w0 w l) (i:Nat) {o:Ob} (hi:l[i]? = some o):o.P w:=h.each o (List.mem_of_getElem? hi)
theorem quiet {w0 w w' : World} {l:List Ob} (h:Sep w0 w l) (hx:Ext [] w w'):Sep w0 w' l:=
 ⟨h.ext.trans hx,fun o ho=>o.ok (h.each o ho) hx (by simp),h.base,h.apart⟩
theorem new {w0 w w' : World} {l:List Ob} (h:Sep w0 w l) (hx:Ext [] w w') (o:Ob) (hP:o.P w') (hF:∀ k∈o.F,w.heap.size≤k):Sep w0 w' (o::l):=by
 refine⟨h.ext.trans hx,fun o' ho'=>?_,fun o' ho'=>?_,?_⟩
 ·rcases List.mem_cons.1 ho' with rfl | ho'
  ·exact hP
  ·exact (h.quiet hx).each o' ho'
 ·rcases List.mem_cons.1 ho' with rfl | ho'
  ·exact fun k hk=>Nat.le_trans h.ext.size (hF k hk)
  ·exact h.base o' ho'
 ·have hlt:∀ o'∈l,∀ k∈o'.F,k<w.heap.size:=fun o' ho'=>o'.lt (h.each o' ho')
  intro i j a b hi hj hij k hk hkb
  cases i with
  | zero=>
   cases j with
   | zero=>exact hij rfl
   | succ j=>
    obtain rfl:o=a:=by simpa using hi
    have hb:b∈l:=List.mem_of_getElem? (by simpa using hj)
    have:=hF k hk
    have:=hlt b hb k hkb
    omega
  | succ i=>
   have ha:a∈l:=List.mem_of_getElem? (by simpa using hi)
   cases j with
   | zero=>
    obtain rfl:o=b:=by simpa using hj
    have:=hF k hkb
    have:=hlt a ha k hk
    omega
   | succ j=>exact h.apart i j a b (by simpa using hi) (by simpa using hj) (by omega) k hk hkb
theorem upd {w0 w w' : World} {l:List Ob} (h:Sep w0 w l) (i:Nat) {o:Ob} (o' : Ob) (hi:l[i]? = some o) (hx:Ext o.F w w') (hf:Fr w o.F o'.F) (hP:o'.P w'):Sep w0 w' (l.set i o'):=by
 have hlt:∀ a∈l,∀ k∈a.F,k<w.heap.size:=fun a ha=>a.lt (h.each a ha)
 have hil:i<l.length:=(List.getElem?_eq_some_iff.1 hi).1
 have hget:∀ j a,(l.set i o')[j]? = some a→(j=i∧a=o')∨(j≠i∧l[j]? = some a):=fun j a hj=>by
  by_cases hji:j=i
  ·subst hji; rw [List.getElem?_set_self hil] at hj; exact .inl ⟨rfl,(Option.some.inj hj).symm⟩
  ·rw [List.getElem?_set_ne (Ne.symm hji)] at hj; exact .inr ⟨hji,hj⟩
 have far:∀ j a,j≠i→l[j]? = some a→∀ k∈a.F,k∉o'.F:=fun j a hji hj k hk hk'=>by
  rcases hf k hk' with q | q
  ·exact h.apart j i a o hj hi hji k hk q
  ·have:=hlt a (List.mem_of_getElem? hj) k hk; omega
 refine⟨?_,?_,?_,?_⟩
 ·exact h.ext.trans' hx (fun k hk hkF=>by have:=h.base o (List.mem_of_getElem? hi) k hkF; omega)
 ·intro a ha
  obtain⟨j,hj⟩:=List.getElem?_of_mem ha
  rcases hget j a hj with ⟨_,rfl⟩ | ⟨hji,hj'⟩
  ·exact hP
  ·exact a.ok (h.each a (List.mem_of_getElem? hj')) hx (fun k hk=>h.apart j i a o hj' hi hji k hk)
 ·intro a ha k hk
  obtain⟨j,hj⟩:=List.getElem?_of_mem ha
  rcases hget j a hj with ⟨_,rfl⟩ | ⟨hji,hj'⟩
  ·rcases hf k hk with q | q
   ·exact h.base o (List.mem_of_getElem? hi) k q
   ·exact Nat.le_trans h.ext.size q
  ·exact h.base a (List.mem_of_getElem? hj') k hk
 ·intro p q a b hp hq hpq k hk hkb
  rcases hget p a hp with ⟨rfl,rfl⟩ | ⟨hpi,hp'⟩
  ·rcases hget q b hq with ⟨rfl,_⟩ | ⟨hqi,hq'⟩
   ·exact hpq rfl
   ·exact far q b hqi hq' k hkb hk
  ·rcases hget q b hq with ⟨rfl,rfl⟩ | ⟨hqi,hq'⟩
   ·exact far p a hpi hp' k hk hkb
   ·exact h.apart p q a b hp' hq' hpq k hk hkb
end Sep
def Ob.one (b:Nat) (x:Obj):Ob where
 F:=[b]
 P:=fun w=>w.heap[b]? = some x
 ok:=fun h hx hS=>hx.keep h (hS b (by simp))
 lt:=fun h k hk=>by rw [List.mem_singleton.1 hk]; exact lt_of_block h
section
variable {P:Program} {ops:Array Oper} {md:Region.Mode} {C:World→Prop} {Q:Exit→Act→World→Prop}
def anyB (P:Program) (md:Region.Mode) (ops:Array Oper) (C:World→Prop) (m:Nat) (L:Array Bool→Act→Prop):Nat→Array Bool→Act→Prop
 | 0,listed,a=>L listed a
 | f+1,listed,a=>Region.ready md ops listed≠[]∧∀ i∈Region.ready md ops listed,i<m∧qOp P ops C i (anyB P md ops C m L f (listed.setIfInBounds i true)) a
theorem wpAny_of_anyB {m g:Nat} {L:Array Bool→Act→Prop} (hL:∀ listed a w,C w→L listed a→wpAny P md ops Q g listed a w) :
  ∀ (f:Nat) (listed:Array Bool) (a:Act) (w:World),C w→anyB P md ops C m L f listed a→wpAny P md ops Q (f+g) listed a w:=by
 intro f
 induction f with
 | zero=>intro listed a w hw h; rw [Nat.zero_add]; exact hL _ _ _ hw h
 | succ f ih=>
  intro listed a w hw h
  rw [show f+1+g=(f+g)+1 by omega]
  refine⟨fun h0=>absurd h0 h.1,fun i hi=>?_⟩
  exact wpOp_of_qOp hw (fun a' w' hw' h'=>ih _ a' w' hw' h') (h.2 i hi).2
theorem not_after {listed:Array Bool} {i:Nat} {oj:Oper} (hi:listed.getD i true=false) (hall:∀ e∈oj.after,Region.binds md e=true→listed.getD e.on false=true) :
  ∀ e∈oj.after,Region.binds md e=true→e.on≠i:=fun e he hb heq=>by
 have h1:=hall e he hb
 rw [heq,getD_both hi] at h1
 cases h1
theorem anyB_first {m i:Nat} {oi:Oper} {v:Value} {L:Array Bool→Act→Prop} (hi:ops[i]? = some oi) (hsel:∀ (j:Nat) (o:Oper) cs b,ops[j]? = some o→o.op≠.select cs b)
  (hs:Region.sinkB md ops m=true) (hc:Region.chainB md ops m=true) (hm:m<ops.size) (him:i<m)
  (hdone:∀ listed a,L listed a→∀ j∈Region.ready md ops listed,m≤j) :
  ∀ (f:Nat) (listed:Array Bool) (a:Act),HeadInv md ops m listed→
   (∀ j oj,ops[j]? = some oj→j≠i→listed.getD j true=false→(∀ e∈oj.after,Region.binds md e=true→e.on≠i)→oi.apart ops oj=true)→
   i∈Region.ready md ops listed→YieldsIn P ops C oi v a→
   anyB P md ops C m L f (listed.setIfInBounds i true) (a.put oi.dst v)→anyB P md ops C m L (f+1) listed a:=by
 intro f
 induction f with
 | zero=>
  intro listed a inv _ hr hy H
  have hun:=(mem_ready.1 hr).1
  refine⟨fun h=>(by rw [h] at hr; cases hr),fun j hj=>?_⟩
  have hjm:j<m:=Nat.lt_of_not_le fun h=>tail_waits hs hc hm inv _ i rfl him hun j h hj
  by_cases hji:j=i
  ·subst hji; exact⟨hjm,hy.qOp hi H⟩
  ·have:=hdone _ _ H j (ready_mono hj hji)
   omega
 | succ f ih=>
  intro listed a inv hfree hr hy H
  have hun:=(mem_ready.1 hr).1
  refine⟨fun h=>(by rw [h] at hr; cases hr),fun j hj=>?_⟩
  have hjm:j<m:=Nat.lt_of_not_le fun h=>tail_waits hs hc hm inv _ i rfl him hun j h hj
  by_cases hji:j=i
  ·subst hji; exact⟨hjm,hy.qOp hi H⟩
  ·obtain⟨hjun,oj,hoj,hall⟩:=mem_ready.1 hj
   have hq:=qOp_put hoj (hfree j oj hoj hji hjun (not_after hun hall)) (fun cs b=>hsel i oi cs b hi) (fun cs b=>hsel j oj cs b hoj) hy (H.2 j (ready_mono hj hji)).2
   refine⟨hjm,qOp_mono (fun a' h3=>ih (listed.setIfInBounds j true) a' (inv.set hj hjm) (fun k ok hk hki hunk hno=>?_) (ready_mono hr (Ne.symm hji)) h3.1 ?_) hq⟩
   ·refine hfree k ok hk hki ?_ hno
    by_cases hjk:j=k
    ·subst hjk; exact hjun
    ·rwa [getD_set_ne true hjk] at hunk
   ·rw [Array.setIfInBounds_comm _ _ hji]; exact h3.2
theorem anyB_lex {m g:Nat} {Lq:Act→Prop} (hsel:Region.noSelect ops=true) (hs:Region.sinkB md ops m=true) (hc:Region.chainB md ops m=true) (hm:m<ops.size) :
  ∀ (l:List Oper) (k:Nat) (listed:Array Bool) (a:Act),(∀ j,j<l.length→l[j]? = ops[k+j]?)→k+l.length=m→HeadInv md ops m listed→
  Region.lexHead md ops g l.length k listed=true→wpQuiet P ops C Lq l a→
  anyB P md ops C m (fun listed' a'=>Region.seqB md ops g m listed' = true∧Lq a') l.length listed a:=by
 intro l
 induction l with
 | nil=>
  intro k listed a _ hk _ hB h
  obtain rfl:k=m:=by simpa using hk
  exact⟨by simpa [Region.lexHead] using hB,h⟩
 | cons o l ih=>
  intro k listed a hl hk inv hB h
  have h0:ops[k]? = some o:=by simpa using (hl 0 (by simp)).symm
  simp only [List.length_cons,Region.lexHead,Bool.and_eq_true] at hB
  simp only [List.length_cons] at hk
  have hr:k∈Region.ready md ops listed:=by simpa using hB.1.1
  have hq:qOp P ops C k (wpQuiet P ops C Lq l) a:=by unfold qOp; simp only [h0]; exact h
  obtain⟨v,hy,hK⟩:=yieldsIn_of_qOp h0 hq
  refine anyB_first h0 (Region.noSelect_spec hsel) hs hc hm (by omega) (fun _ _ hL=>seqB_ready hL.1) l.length listed a inv (Region.free_spec h0 hB.1.2) hr hy ?_
  exact ih (k+1) _ _ (fun j hj=>by have:=hl (j+1) (by simp; omega); simpa [Nat.add_assoc,Nat.add_comm 1 j] using this) (by omega) (inv.set hr (by omega)) hB.2 hK
theorem headInv_start (l:List Oper) (m:Nat):HeadInv md l.toArray m (Array.replicate l.toArray.size false):=
 ⟨by simp,fun j oj _ hl=>(by rw [getD_replicate_false] at hl; cases hl),fun t _ ht=>getD_in (by simpa using ht) (getD_replicate_false _ _)⟩
theorem wp_region_quiet_tail {id:Nat} {a:Act} {w:World} {l:List Oper} (m:Nat) (hm:P.follows .mixedOrders=true) (hB:Region.lexTailB .any l.toArray m=true) (hC:C { w with drawn:=w.drawn+1 })
  (h:wpQuiet P l.toArray C (fun a'=>∀ w',C w'→wpList P l.toArray Q (l.drop m) a' w') (l.take m) a):(Code.region id l.toArray true).wp P Q a w:=by
 simp only [Region.lexTailB,Bool.and_eq_true,decide_eq_true_eq] at hB
 obtain⟨⟨⟨⟨hsel,hn⟩,hs⟩,hc⟩,hlex⟩:=hB
 have hn' : m<l.length:=by simpa using hn
 have htl:(l.take m).length=m:=by simp; omega
 have hdl:(l.drop m).length=l.toArray.size - m:=by simp
 have H:=anyB_lex (md:=.any) (g:=l.toArray.size - m) hsel hs hc hn (l.take m) 0 _ a (fun j hj=>by
  have hj' : j<m:=by rw [htl] at hj; exact hj
  simp [hj']) (by simpa using htl) (headInv_start l m) (by rw [htl]; exact hlex) h
 refine wp_region_any hm ?_
 have:=wpAny_of_anyB (Q:=Q) (g:=l.toArray.size - m) (fun listed a' w' hw' hL=>by
  have:=wpAny_of_seq (md:=.any) (Q':=Q) (l.drop m) m listed a' w' (fun j=>by simp [List.getElem?_drop]) (by rw [hdl]; exact hL.1) (hL.2 w' hw')
  rwa [hdl] at this) _ _ _ _ hC H
 rw [htl,show m+(l.toArray.size - m)=l.toArray.size by omega] at this
 exact this
def anyC (P:Program) (md:Region.Mode) (ops:Array Oper) (Q:Exit→Act→World→Prop) (C:World→Prop) (m:Nat) (L:Array Bool→Act→World→Prop):Nat→Array Bool→Act→World→Prop
 | 0,listed,a,w=>L listed a w
 | f+1,listed,a,w=>Region.ready md ops listed≠[]∧∀ i∈Region.ready md ops listed,i<m∧wpOp P ops Q i (fun a' w'=>C w'∧anyC P md ops Q C m L f (listed.setIfInBounds i true) a' w') a w
theorem wpAny_of_anyC {m g:Nat} {L:Array Bool→Act→World→Prop} (hL:∀ listed a w,L listed a w→wpAny P md ops Q g listed a w) :
  ∀ (f:Nat) (listed:Array Bool) (a:Act) (w:World),anyC P md ops Q C m L f listed a w→wpAny P md ops Q (f+g) listed a w:=by
 intro f
 induction f with
 | zero=>intro listed a w h; rw [Nat.zero_add]; exact hL _ _ _ h
 | succ f ih=>
  intro listed a w h
  rw [show f+1+g=(f+g)+1 by omega]
  exact⟨fun h0=>absurd h0 h.1,fun i hi=>wpOp_mono (fun a' w' h'=>ih _ a' w' h'.2) (h.2 i hi).2⟩
theorem anyC_first {m i:Nat} {oi:Oper} {v:Value} {L:Array Bool→Act→World→Prop} (hi:ops[i]? = some oi) (hsel:∀ (j:Nat) (o:Oper) cs b,ops[j]? = some o→o.op≠.select cs b)
  (hQ:∀ c a w,Q (.panic c) (a.put oi.dst v) w→Q (.panic c) a w)
  (hs:Region.sinkB md ops m=true) (hc:Region.chainB md ops m=true) (hm:m<ops.size) (him:i<m)
  (hdone:∀ listed a w,L listed a w→∀ j∈Region.ready md ops listed,m≤j) :
  ∀ (f:Nat) (listed:Array Bool) (a:Act) (w:World),C w→HeadInv md ops m listed→
   (∀ j oj,ops[j]? = some oj→j≠i→listed.getD j true=false→(∀ e∈oj.after,Region.binds md e=true→e.on≠i)→oi.apart ops oj=true)→
   i∈Region.ready md ops listed→YieldsIf P ops C oi v a→
   anyC P md ops Q C m L f (listed.setIfInBounds i true) (a.put oi.dst v) w→anyC P md ops Q C m L (f+1) listed a w:=by
 intro f
 induction f with
 | zero=>
  intro listed a w hw inv _ hr hy H
  have hun:=(mem_ready.1 hr).1
  refine⟨fun h=>(by rw [h] at hr; cases hr),fun j hj=>?_⟩
  have hjm:j<m:=Nat.lt_of_not_le fun h=>tail_waits hs hc hm inv _ i rfl him hun j h hj
  by_cases hji:j=i
  ·subst hji; exact⟨hjm,hy.wpOp hi hw ⟨hw,H⟩⟩
  ·have:=hdone _ _ _ H j (ready_mono hj hji)
   omega
 | succ f ih=>
  intro listed a w hw inv hfree hr hy H
  have hun:=(mem_ready.1 hr).1
  refine⟨fun h=>(by rw [h] at hr; cases hr),fun j hj=>?_⟩
  have hjm:j<m:=Nat.lt_of_not_le fun h=>tail_waits hs hc hm inv _ i rfl him hun j h hj
  by_cases hji:j=i
  ·subst hji; exact⟨hjm,hy.wpOp hi hw ⟨hw,H⟩⟩
  ·obtain⟨hjun,oj,hoj,hall⟩:=mem_ready.1 hj
   have hq:=wpOp_putIf hoj (hfree j oj hoj hji hjun (not_after hun hall)) (fun cs b=>hsel i oi cs b hi) (fun cs b=>hsel j oj cs b hoj) hQ hy (H.2 j (ready_mono hj hji)).2
   refine⟨hjm,wpOp_mono (fun a' w' h3=>⟨h3.2.1,ih (listed.setIfInBounds j true) a' w' h3.2.1 (inv.set hj hjm) (fun k ok hk hki hunk hno=>?_) (ready_mono hr (Ne.symm hji)) h3.1 ?_⟩) hq⟩
   ·refine hfree k ok hk hki ?_ hno
    by_cases hjk:j=k
    ·subst hjk; exact hjun
    ·rwa [getD_set_ne true hjk] at hunk
   ·rw [Array.setIfInBounds_comm _ _ hji]; exact h3.2.2
def noCall (o:Oper):Bool:=match o.op with
 | .move _ | .pick .. | .load .. | .binOp .. | .unOp .. | .convert .. | .slice .. | .fieldAddr .. | .field .. | .indexAddr .. | .index .. | .extract .. | .makeInterface ..=>true
 | .nilCheck _ | .assign _ | .build .. | .typeAssert ..=>true
 | .call c=>match c.callee with | .builtin .len | .builtin .cap | .builtin .max | .builtin .min=>true | _=>false
 | _=>false
def Vy (s:Sem Next):Prop:=∀ (P:Program) (w w' : World) (n:Next),s.run P w=.ok n w'→∃ v,n=.value v
theorem Vy.pure (v:Value):Vy (Pure.pure (Next.value v)):=fun P w w' n h=>by
 simp only [Sem.run_pure,Result.ok.injEq] at h; exact⟨v,h.1.symm⟩
theorem Vy.bind {α:Type} {s:Sem α} {f:α→Sem Next} (h:∀ x,Vy (f x)):Vy (s >>= f):=fun P w w' n e=>by
 rw [Sem.run_bind] at e
 cases hs:s.run P w with
 | ok x w1=>rw [hs] at e; exact h x P w1 w' n e
 | halt x w1=>rw [hs] at e; simp [Result.andThen] at e
theorem Vy.halt (h:Halt):Vy (Sem.halt h):=fun P w w' n e=>by simp [Sem.run] at e
theorem noCall_vy {o:Oper} (hn:noCall o=true) (ρ:Operand→Value):Vy (execOp ρ o):=by
 obtain⟨dst,op,ty,pos,after,guard⟩:=o
 cases op
 case call c=>
  obtain⟨callee,args,ats⟩:=c
  cases callee with
  | value f=>simp [noCall] at hn
  | invoke r m=>simp [noCall] at hn
  | builtin b=>
   cases b <;> first
    | (simp [noCall] at hn; done)
    | (rw [BigFrame.execOp_builtin]; first | rw [BigFrame.builtin_len] | rw [BigFrame.builtin_cap] | rw [BigFrame.builtin_max] | rw [BigFrame.builtin_min]
       exact Vy.bind fun _=>Vy.pure _)
 case nilCheck x=>
  simp only [execOp]
  split
  ·exact Vy.bind fun _=>Vy.halt _
  ·exact Vy.bind fun _=>Vy.halt _
  ·exact Vy.bind fun _=>Vy.halt _
  ·split
   ·exact Vy.bind fun _=>Vy.halt _
   ·refine Vy.bind fun p=>Vy.bind fun q=>?_
    split
    ·exact Vy.bind fun _=>Vy.pure _
    ·exact Vy.pure _
   ·exact Vy.pure _
  ·exact Vy.pure _
 all_goals first
  | (simp [noCall] at hn; done)
  | (simp only [execOp]; exact Vy.pure _)
  | (simp only [execOp]; exact Vy.bind fun _=>Vy.pure _)
theorem yieldsIf_of_in {o:Oper} (hn:noCall o=true) {v:Value} {a:Act} (h:YieldsIn P ops C o v a):YieldsIf P ops C o v a:=by
 rcases h with ⟨hw,h⟩ | h
 ·refine .inl ⟨hw,fun w hC=>?_⟩
  have h1:=h w hC
  have h2:=noCall_vy hn a.eval P w
  unfold Oper.quietAt at h1
  cases hr:(execOp a.eval o).run P w with
  | ok n w'=>
   obtain⟨u,rfl⟩:=h2 w' n hr
   rw [hr] at h1
   obtain⟨rfl,rfl⟩:=h1
   rfl
  | halt x w'=>rw [hr] at h1; exact h1.elim
 ·exact .inr h
structure MidGo (C:World→Prop) (K:Act→World→Prop) (a:Act) (w:World):Prop where
 cls:C w
 on:K a w
def midW (P:Program) (ops:Array Oper) (Q:Exit→Act→World→Prop) (C:World→Prop) (late:List Oper):List Oper→Act→World→Prop
 | [],a,w=>wpList P ops Q late a w
 | o::rest,a,w=>
  if Region.wanted o (yielded ops a.tmps) then o.wp P a w (MidGo C (midW P ops Q C late rest)) Q∨(o.asks P a w∧LetsOut Q) else MidGo C (midW P ops Q C late rest) (a.put o.dst undef) w
theorem midW_nil {late:List Oper} {a:Act} {w:World} (h:wpList P ops Q late a w):midW P ops Q C late [] a w:=h
theorem midW_step {late rest:List Oper} {o:Oper} {a:Act} {w:World} (hg:o.guard=none) (h:∀ K:Act→World→Prop,(∀ a w,MidGo C (midW P ops Q C late rest) a w→K a w)→o.wp P a w K Q):midW P ops Q C late (o::rest) a w:=by
 unfold midW
 rw [if_pos (by simp [Region.wanted,hg])]
 exact .inl (h _ fun _ _ h=>h)
theorem anyC_mid {m g:Nat} {late:List Oper}:∀ (l:List Oper) (k:Nat) (listed:Array Bool) (a:Act) (w:World),(∀ j,j<l.length→l[j]? = ops[k+j]?)→k+l.length=m→
  Region.seqB md ops (l.length+g) k listed=true→midW P ops Q C late l a w→
  anyC P md ops Q C m (fun listed' a' w'=>Region.seqB md ops g m listed' = true∧wpList P ops Q late a' w') l.length listed a w:=by
 intro l
 induction l with
 | nil=>
  intro k listed a w _ hk hB h
  obtain rfl:k=m:=by simpa using hk
  exact⟨by simpa using hB,h⟩
 | cons o l ih=>
  intro k listed a w hl hk hB h
  have h0:ops[k]? = some o:=by simpa using (hl 0 (by simp)).symm
  simp only [List.length_cons] at hk
  rw [List.length_cons,show l.length+1+g=(l.length+g)+1 by omega] at hB
  simp only [Region.seqB,Bool.and_eq_true,decide_eq_true_eq] at hB
  refine⟨by rw [hB.1]; simp,fun i hi=>?_⟩
  rw [hB.1] at hi
  obtain rfl:i=k:=by simpa using hi
  refine⟨by omega,?_⟩
  have hw:wpOp P ops Q i (MidGo C (midW P ops Q C late l)) a w:=by unfold wpOp; simp only [h0]; exact h
  exact wpOp_mono (fun a' w' h'=>⟨h'.cls,ih (i+1) _ a' w' (fun j hj=>by have:=hl (j+1) (by simp; omega); simpa [Nat.add_assoc,Nat.add_comm 1 j] using this) (by omega) hB.2 h'.on⟩) hw
theorem anyC_lex {m r:Nat} {Lq:Act→Prop} {L:Array Bool→Act→World→Prop} {w:World} (hw:C w) (hQ:∀ c a d v w,Q (.panic c) (a.put d v) w→Q (.panic c) a w)
  (hsel:Region.noSelect ops=true) (hs:Region.sinkB md ops m=true) (hc:Region.chainB md ops m=true) (hm:m<ops.size) (hdone:∀ listed a w,L listed a w→∀ j∈Region.ready md ops listed,m≤j) (g:Nat)
  (hL:∀ listed a,Region.seqB md ops g (m - r) listed=true→Lq a→anyC P md ops Q C m L r listed a w) :
  ∀ (l:List Oper) (k:Nat) (listed:Array Bool) (a:Act),(∀ j,j<l.length→l[j]? = ops[k+j]?)→(∀ o∈l,noCall o=true)→k+l.length=m - r→HeadInv md ops m listed→
  Region.lexHead md ops g l.length k listed=true→wpQuiet P ops C Lq l a→anyC P md ops Q C m L (l.length+r) listed a w:=by
 intro l
 induction l with
 | nil=>
  intro k listed a _ _ hk _ hB h
  have hk' : k=m - r:=by simpa using hk
  rw [List.length_nil,Nat.zero_add]
  exact hL listed a (by rw [←hk']; simpa [Region.lexHead] using hB) h
 | cons o l ih=>
  intro k listed a hl hn hk inv hB h
  have h0:ops[k]? = some o:=by simpa using (hl 0 (by simp)).symm
  simp only [List.length_cons,Region.lexHead,Bool.and_eq_true] at hB
  simp only [List.length_cons] at hk
  have hr:k∈Region.ready md ops listed:=by simpa using hB.1.1
  have hq:qOp P ops C k (wpQuiet P ops C Lq l) a:=by unfold qOp; simp only [h0]; exact h
  obtain⟨v,hy,hK⟩:=yieldsIn_of_qOp h0 hq
  rw [List.length_cons,show l.length+1+r=(l.length+r)+1 by omega]
  refine anyC_first h0 (Region.noSelect_spec hsel) (fun c a w=>hQ c a _ _ w) hs hc hm (by omega) hdone (l.length+r) listed a w hw inv (Region.free_spec h0 hB.1.2) hr (yieldsIf_of_in (hn o (by simp)) hy) ?_
  exact ih (k+1) _ _ (fun j hj=>by have:=hl (j+1) (by simp; omega); simpa [Nat.add_assoc,Nat.add_comm 1 j] using this) (fun o' ho'=>hn o' (by simp [ho'])) (by omega) (inv.set hr (by omega)) hB.2 hK
def midB (ops:Array Oper) (n r:Nat):Bool:=
 Region.noSelect ops&&decide (n+r<ops.size)&&Region.sinkB .any ops (n+r)&&Region.chainB .any ops (n+r)&&(ops.toList.take n).all noCall &&
  Region.lexHead .any ops (r+(ops.size - (n+r))) n 0 (Array.replicate ops.size false)
theorem wpAny_mid {a:Act} {w:World} {l:List Oper} (n r:Nat) (hB:midB l.toArray n r=true) (hC:C { w with drawn:=w.drawn+1 })
  (h:wpQuiet P l.toArray C (fun a'=>midW P l.toArray (NoPanic Q) C (l.drop (n+r)) ((l.drop n).take r) a' w.drew) (l.take n) a):wpAny P .any l.toArray (NoPanic Q) l.toArray.size (Array.replicate l.toArray.size false) a { w with drawn:=w.drawn+1 }:=by
 simp only [midB,Bool.and_eq_true,decide_eq_true_eq] at hB
 obtain⟨⟨⟨⟨⟨hsel,hn⟩,hs⟩,hc⟩,hno⟩,hlex⟩:=hB
 have hn' : n+r<l.length:=by simpa using hn
 have htl:(l.take n).length=n:=by simp; omega
 have hml:((l.drop n).take r).length=r:=by simp; omega
 have hdl:(l.drop (n+r)).length=l.toArray.size - (n+r):=by simp
 have H:=anyC_lex (P:=P) (ops:=l.toArray) (md:=.any) (Q:=NoPanic Q) (C:=C) (m:=n+r) (r:=r)
  (L:=fun listed' a' w'=>Region.seqB .any l.toArray (l.toArray.size - (n+r)) (n+r) listed' = true∧wpList P l.toArray (NoPanic Q) (l.drop (n+r)) a' w')
  hC (fun _ _ _ _ _ h=>h) hsel hs hc hn (fun _ _ _ hL=>seqB_ready hL.1) (r+(l.toArray.size - (n+r)))
  (fun listed a' hB' h'=>by
   have:=anyC_mid (P:=P) (ops:=l.toArray) (md:=.any) (Q:=NoPanic Q) (C:=C) (m:=n+r) (g:=l.toArray.size - (n+r)) (late:=l.drop (n+r)) ((l.drop n).take r) n listed a' { w with drawn:=w.drawn+1 }
    (fun j hj=>by rw [hml] at hj; simp [hj,List.getElem?_drop]) (by rw [hml]) (by rw [hml]; rw [show n+r - r=n by omega] at hB'; exact hB') h'
   rw [hml] at this
   exact this)
  (l.take n) 0 (Array.replicate l.toArray.size false) a (fun j hj=>by rw [htl] at hj; simp [hj]) (fun o ho=>List.all_eq_true.1 hno o (by simpa using ho)) (by rw [htl]; omega) (headInv_start l (n+r)) (by rw [htl]; exact hlex) h
 have:=wpAny_of_anyC (Q:=NoPanic Q) (g:=l.toArray.size - (n+r)) (fun listed a' w' hL=>by
  have:=wpAny_of_seq (md:=.any) (Q':=NoPanic Q) (l.drop (n+r)) (n+r) listed a' w' (fun j=>by simp [List.getElem?_drop]) (by rw [hdl]; exact hL.1) hL.2
  rwa [hdl] at this) _ _ _ _ H
 rw [htl,show n+r+(l.toArray.size - (n+r))=l.toArray.size by omega] at this
 exact this
theorem wp_region_mid {id:Nat} {a:Act} {w:World} {l:List Oper} (n r:Nat) (hm:P.follows .mixedOrders=true) (hB:midB l.toArray n r=true) (hC:C { w with drawn:=w.drawn+1 })
  (h:wpQuiet P l.toArray C (fun a'=>midW P l.toArray (NoPanic Q) C (l.drop (n+r)) ((l.drop n).take r) a' w.drew) (l.take n) a):(Code.region id l.toArray true).wp P Q a w:=
 wp_region_noPanic (wp_region_any hm (wpAny_mid n r hB hC h))
end
def ExS (S:List Nat) (w:World):Type:={ w' : World // Ext S w w' }
def ExS.w {S:List Nat} {w:World} (x:ExS S w):World:=x.val
theorem ExS.ext {S:List Nat} {w:World} (x:ExS S w):Ext S w x.w:=x.property
def ExS.mk {S:List Nat} {w:World} (w' : World) (h:Ext S w w'):ExS S w:=⟨w',h⟩
instance (S:List Nat) (w:World):Nonempty (ExS S w):=⟨ExS.mk w (Ext.refl S w)⟩
theorem ExS.heap {S:List Nat} {w:World} (x:ExS S w) {b:Nat} {o:Obj} (h:w.heap[b]? = some o) (hS:b∉S):x.w.heap[b]? = some o:=x.ext.keep h hS
theorem ExS.cell {S:List Nat} {w:World} (x:ExS S w) {a:Addr} {v:Value} (hc:w.cell? a=some v) (hS:a.block∉S):x.w.cell? a=some v:=
 (World.cell?_of_block (x.ext.block a.block (World.block_lt_of_cell? w a hc) hS)).trans hc
theorem push_field {E T:TypeId} {k:Nat} {w w1:World} {b g cap n:Nat} {v:Value} {cs:Array Value} {xs:List Value} {O:Obj} (hb:w.heap[b]? = some (.cells cs T (0,0))) (hne:v.ownBlock≠some b)
  (hown:w1.ownsRow 0 E k (.slice (some ⟨g,0,none⟩) n cap) n xs) (hgrow:(w.alloc O).grownBy w1 v.ownBlock) (hat:v.ownBlock=some g∨g=w.heap.size+1) (i:Nat) :
  (w1.setCell ⟨b,i,none⟩ (.slice (some ⟨g,0,none⟩) n cap)).heap[b]? = some (.cells (cs.setIfInBounds i (.slice (some ⟨g,0,none⟩) n cap)) T (0,0))∧
  (w1.setCell ⟨b,i,none⟩ (.slice (some ⟨g,0,none⟩) n cap)).ownsRow 0 E k (.slice (some ⟨g,0,none⟩) n cap) n xs∧
  Ext (b::v.ownBlock.toList) w (w1.setCell ⟨b,i,none⟩ (.slice (some ⟨g,0,none⟩) n cap))∧g≠b∧Fr w (b::v.ownBlock.toList) [b,g]:=by
 have hsz:=lt_of_block hb
 have hgb:g≠b:=fun e=>by
  rcases hat with h | h
  ·exact hne (by rw [h,e])
  ·omega
 have hb1:w1.heap[b]? = some (.cells cs T (0,0)):=grown_keep hgrow (heap_alloc_old _ hb) hne
 refine⟨heap_setCell_same hb1 _,ownsRow_setCell_other hown (fun e=>hgb (by simpa [Value.ownBlock] using e)) _,?_,hgb,fun q hq=>?_⟩
 ·exact (((Ext.refl _ w).alloc _).grown hgrow (fun k hk=>.inl (by simp [hk]))).setCell _ _ (by simp)
 ·rcases List.mem_cons.1 hq with rfl | hq
  ·exact .inl (by simp)
  ·obtain rfl:q=g:=by simpa using hq
   rcases hat with h | h
   ·exact .inl (by simp [h])
   ·exact .inr (by omega)
theorem grown_drew {w w1:World} {O:Obj} {row:Option Nat} (h:(w.drew.alloc O).grownBy w1 row):(w.alloc O).grownBy w1 row:=⟨h.os,h.tape,h.output,h.size,h.block⟩
def oSl (E:TypeId) (k:Nat) (v:Value) (n:Nat) (xs:List Value):Ob where
 F:=v.ownBlock.toList
 P:=fun w=>w.ownsRow 0 E k v n xs
 ok:=fun h hx hS=>ownsRow_ext h hx (fun g hg=>hS g (by simp [hg]))
 lt:=fun h q hq=>(h.lt q (by simpa using hq)).2
theorem push_local {w w1:World} {g cap n:Nat} {v:Value} {O:Obj} (hgrow:(w.alloc O).grownBy w1 v.ownBlock) (hat:v.ownBlock=some g∨g=w.heap.size+1) :
  Ext v.ownBlock.toList w w1∧Fr w v.ownBlock.toList (Value.slice (some ⟨g,0,none⟩) n cap).ownBlock.toList:=by
 refine⟨((Ext.refl _ w).alloc _).grown hgrow (fun k hk=>.inl (by simp [hk])),fun q hq=>?_⟩
 obtain rfl:q=g:=by simpa [Value.ownBlock] using hq
 rcases hat with h | h
 ·exact .inl (by simp [h])
 ·exact .inr (by omega)
section
variable {P:Program} (w:World)
theorem run_append_src (base:Nat) (t tx ty e:TypeId) (i:TypeInfo) (z:Value) (size bytes:Nat) (ht:P.underlying t=some (.slice e)) (hi:P.info? e=some i) (hz:i.zero=some z)
  (hsize:i.size=size) (hby:i.bytes=bytes) (hzs:z.cells.size=size) (hsz:0<size)
  (v:Value) (n:Nat) (xs:List Value) (hown:w.ownsRow base e size v n xs)
  (x:Value) (m:Nat) (news:List Value) (hs:Src P size tx x m news w) (hm:0<m)
  (h63:n+m≤maxLen) (hbytes:(n+m)*bytes≤140737488355328) (hbase:base≤w.heap.size) :
  ∃ g cap w',(Builtin.append_ #[t,tx] ty #[v,x]).run P w=.ok (.slice (some ⟨g,0,none⟩) (n+m) cap) w'∧w'.ownsRow base e size (.slice (some ⟨g,0,none⟩) (n+m) cap) (n+m) (xs++news)∧w.grownBy w' v.ownBlock∧
   (v.ownBlock=some g∨g=w.heap.size)∧g<w'.heap.size:=by
 subst hsize
 subst hby
 have hsmall:n+m≤9223372036854775807:=by simp only [maxLen] at h63; omega
 have hl:=hs.newsLen
 have hlen:(xs++news).length=(n+m)*i.size:=by rw [List.length_append,hown.1,hl,Nat.add_mul]
 have grown:∀ (old:Nat),old<n+m→∀ (row:Option Nat),
   (w.drew.alloc (.cells ((xs++news).toArray++Builtin.zeroCells z.cells (grownCap w (n+m) old e - (n+m))) e)).ownsRow base e i.size
    (.slice (some ⟨w.heap.size,0,none⟩) (n+m) (grownCap w (n+m) old e)) (n+m) (xs++news)∧
   w.grownBy (w.drew.alloc (.cells ((xs++news).toArray++Builtin.zeroCells z.cells (grownCap w (n+m) old e - (n+m))) e)) row:=by
  intro old ho row
  have hge:=grownCap_ge w (n+m) old e
  have hcm:grownCap w (n+m) old e≤maxLen:=grownCap_le_maxLen w (n+m) old e h63
  refine⟨⟨hlen,.inr ⟨w.heap.size,_,_,rfl,hbase,heap_alloc_new w.drew _,hge,hcm,?_,?_⟩⟩,⟨rfl,rfl,rfl,by simp,fun k hk _=>Below.heap_alloc w.drew _ k hk⟩⟩
  ·simp only [Array.size_append,List.size_toArray,size_zeroCells,hzs,hlen,←Nat.add_mul]
   congr 1
   omega
  ·simp only [Array.toList_append]
   rw [←hlen]
   exact List.take_left
 rcases hown.2 with ⟨rfl,rfl⟩ | ⟨g,cap,cur,rfl,hbg,hg,hnc,hcm,hcs,htake⟩
 ·have hx:xs=[]:=List.eq_nil_of_length_eq_zero (by simpa using hown.1)
  subst hx
  have hr:=run_append_grow_src (P:=P) w t tx ty e i z ht hi hz none 0 0 [] (run_firstCells_none w.drew i.size 0 0 0) x m news hs (by omega) (by omega) (growslice_fits (by omega) hbytes)
  have hgr:=grown 0 (by omega) (Value.ownBlock (.slice none 0 0))
  simp only [Nat.zero_add,List.nil_append] at hgr hr ⊢
  exact⟨_,_,_,hr,hgr.1,hgr.2,.inr rfl,by simp⟩
 ·by_cases hroom:n+m≤cap
  ·have hfit:n*i.size+news.length≤cur.size:=by rw [hl,hcs,←Nat.add_mul]; exact Nat.mul_le_mul_right _ hroom
   have hst:=run_storeCells_at P g (n*i.size) e news 0 cur w hg (by simpa using hfit) hs.one
   simp only [Nat.add_zero] at hst
   have hr:(Builtin.append_ #[t,tx] ty #[.slice (some ⟨g,0,none⟩) n cap,x]).run P w=.ok (.slice (some ⟨g,0,none⟩) (n+m) cap) (w.setRow g (cur.toList.take (n*i.size)++news++cur.toList.drop (n*i.size+news.length)).toArray):=by
    rcases hs.kind with ⟨e',hk⟩ | hk <;> simp [Builtin.append_,run_underlying ht,run_underlying hk,sizeOf,typeInfo,hi,hs.len,hroom,hs.cells,Addr.add_lit,hst]
   refine⟨_,_,_,hr,⟨hlen,.inr ⟨g,cap,_,rfl,hbg,setRow_heap w g cur _ e _ hg,hroom,hcm,?_,?_⟩⟩,⟨rfl,rfl,rfl,by simp,fun k _ hk=>setRow_other w g k _ (fun e=>hk (by simp [Value.ownBlock,e]))⟩,.inl rfl,?_⟩
   ·simp only [List.size_toArray,List.length_append,List.length_take,List.length_drop,Array.length_toList]
    omega
   ·rw [htake,←hlen]
    exact List.take_left
   ·have:=lt_of_block hg
    simpa using this
  ·have holds:∀ j u,xs[j]? = some u→w.cell? ((⟨g,0,none⟩:Addr).add j)=some u:=hown.cells (g:=g) rfl
   have hf:=run_firstCells_some (P:=P) w.drew i.size n ⟨g,0,none⟩ n cap xs hown.1 (by simpa using holds)
   have hr:=run_append_grow_src (P:=P) w t tx ty e i z ht hi hz (some ⟨g,0,none⟩) n cap xs hf x m news hs (by omega) (by omega) (growslice_fits (by omega) hbytes)
   have hgr:=grown cap (by omega) (Value.ownBlock (.slice (some ⟨g,0,none⟩) n cap))
   exact⟨_,_,_,hr,hgr.1,hgr.2,.inr rfl,by simp⟩
theorem wpList_append_src {ops:Array Oper} {rest:List Oper} {o:Oper} {a:Go.Act} {Q:Exit→Go.Act→World→Prop} (hgd:o.guard=none) (s x:Operand) (t tx:TypeId)
  (ho:o.op=.call { callee:=.builtin .append,args:=#[s,x],argTypes:=#[t,tx]})
  (base:Nat) (e:TypeId) (i:TypeInfo) (z:Value) (size bytes:Nat) (ht:P.underlying t=some (.slice e)) (hi:P.info? e=some i) (hz:i.zero=some z)
  (hsize:i.size=size) (hby:i.bytes=bytes) (hzs:z.cells.size=size) (hsz:0<size)
  (v:Value) (n:Nat) (xs:List Value) (hs:a.eval s=v) (hown:w.ownsRow base e size v n xs)
  (xv:Value) (m:Nat) (news:List Value) (hx:a.eval x=xv) (hsrc:Src P size tx xv m news w) (hm:0<m)
  (h63:n+m≤maxLen) (hbytes:(n+m)*bytes≤140737488355328) (hbase:base≤w.heap.size)
  (h:∀ g cap w',w'.ownsRow base e size (.slice (some ⟨g,0,none⟩) (n+m) cap) (n+m) (xs++news)→w.grownBy w' v.ownBlock→(v.ownBlock=some g∨g=w.heap.size)→g<w'.heap.size→wpList P ops Q rest (a.put o.dst (.slice (some ⟨g,0,none⟩) (n+m) cap)) w') :
  wpList P ops Q (o::rest) a w:=by
 refine wpList_plain hgd fun K hK=>?_
 obtain⟨g,cap,w',hr,h2,h3,h4,h5⟩:=run_append_src (P:=P) w base t tx o.type e i z size bytes ht hi hz hsize hby hzs hsz v n xs hown xv m news hsrc hm h63 hbytes hbase
 unfold Oper.wp execOp
 simp only [ho,resolve,invoke,builtin,Sem.run_bind,Sem.run_pure,Result.andThen_ok,List.map_toArray,List.map_cons,List.map_nil,hs,hx,hr]
 exact hK _ _ (h g cap w' h2 h3 h4 h5)
end
namespace Kt
open Go.RowKit
theorem wf_i64 {n:Int} (h:(Lit.int .i64 n).wf=true) : -9223372036854775808≤n∧n≤9223372036854775807:=by
 simp [Lit.wf,IntKind.min,IntKind.max,IntKind.signed,IntKind.bits] at h
 omega
end Kt
open Go.RowKit
section
variable {P:Program}
abbrev rnd (l:Nat):Fence:=Fence.wide.inRound l
theorem callsIn_rnd {l n:Nat} {f:FuncId} {args:Array Value} {w:World} {R:Ending→World→Prop} (h:Calls P f args w R):CallsIn (rnd l) n P f args w R:=
 (callsIn_wide (n:=n)).2 h
theorem rowsIn_rnd {l n:Nat} {row:String} {args:Array Value} {w:World} {R:Value→World→Prop} (h:Rows P row args w R):RowsIn (rnd l) n P row args w R:=fun c cs _=>by
 obtain⟨v,w',hr,hs⟩:=h c cs
 exact⟨v,w',hr,stepsIn_wide.2 hs⟩
def noDefer (o:Oper):Bool:=match o.op with | .defer _=>false | _=>true
theorem operIn_of {l n:Nat} {o:Oper} {a:Go.Act} {w:World} {next:Go.Act→World→Prop} {Q:Exit→Go.Act→World→Prop} (hd:noDefer o=true) (h:o.wp P a w next Q):o.wpIn (rnd l) n P a w next Q:=by
 refine⟨fun _ _=>trivial,?_⟩
 rw [Oper.semAt_eq _ _ _ (fun c e=>by simp [noDefer,e] at hd)]
 unfold Oper.wp at h
 generalize (execOp a.eval o).run P w=r at h
 cases r with
 | ok x w'=>
  cases x <;> first
   | exact h
   | exact⟨fun q=>by simp [Fence.wide] at q,callsIn_rnd (Calls.mono h (fun e w'' he=>by cases e <;> exact he))⟩
   | exact⟨fun q=>by simp [Fence.wide] at q,rowsIn_rnd h⟩
   | exact h.elim
 | halt x w'=>cases x <;> exact h
theorem wpListIn_of {l n:Nat} {ops:Array Oper} {Q:Exit→Go.Act→World→Prop} (hL:¬ LetsOut Q):∀ (L:List Oper),L.all noDefer=true→∀ (a:Go.Act) (w:World),wpList P ops Q L a w→wpListIn (rnd l) n P ops Q L a w:=by
 intro L
 induction L with
 | nil=>exact fun _ a w h=>h
 | cons o L ih=>
  intro hd a w h
  simp only [List.all_cons,Bool.and_eq_true] at hd
  unfold wpList at h
  unfold wpListIn
  by_cases hw:Region.wanted o (yielded ops a.tmps)=true
  ·simp only [hw,if_true] at h ⊢
   rcases h with h | h
   ·exact operIn_of hd.1 (Oper.wp_mono (fun a w h=>ih hd.2 a w h) h)
   ·exact absurd h.2 hL
  ·simp only [hw] at h ⊢
   exact⟨fun _ _=>trivial,ih hd.2 _ _ h⟩
theorem wpOpIn_of {l n:Nat} {ops:Array Oper} {Q:Exit→Go.Act→World→Prop} (hL:¬ LetsOut Q) (hd:ops.toList.all noDefer=true) {i:Nat} {K:Go.Act→World→Prop} {a:Go.Act} {w:World} (h:wpOp P ops Q i K a w):wpOpIn (rnd l) n P ops Q i K a w:=by
 unfold wpOp at h
 unfold wpOpIn
 cases ho:ops[i]? with
 | none=>simp only [ho] at h ⊢; exact h
 | some o=>
  simp only [ho] at h ⊢
  by_cases hw:Region.wanted o (yielded ops a.tmps)=true
  ·simp only [hw,if_true] at h ⊢
   rcases h with h | h
   ·exact operIn_of (List.all_eq_true.1 hd o (by have:=Array.mem_of_getElem? ho; simpa using this)) h
   ·exact absurd h.2 hL
  ·simp only [hw] at h ⊢
   exact⟨fun _ _=>trivial,h⟩
theorem wpAnyIn_of {l n:Nat} {md:Region.Mode} {ops:Array Oper} {Q:Exit→Go.Act→World→Prop} (hL:¬ LetsOut Q) (hd:ops.toList.all noDefer=true):∀ (f:Nat) (listed:Array Bool) (a:Go.Act) (w:World),wpAny P md ops Q f listed a w→wpAnyIn (rnd l) n P md ops Q f listed a w:=by
 intro f
 induction f with
 | zero=>exact fun _ _ _ h=>h
 | succ f ih=>exact fun listed a w h=>⟨h.1,fun i hi=>wpOpIn_mono (fun a w h=>ih _ a w h) (wpOpIn_of hL hd (h.2 i hi))⟩
theorem wpListIn_hid {l n:Nat} {ops:Array Oper} {Q:Exit→Go.Act→World→Prop} {L:List Oper} {a:Go.Act} {w:World} (hL:¬ LetsOut Q) (hd:L.all noDefer=true) (h:RowKit.Hid (wpList P ops Q L a w)):wpListIn (rnd l) n P ops Q L a w:=
 wpListIn_of hL L hd a w h.out
theorem rnd_any {l n id:Nat} {L:List Oper} {Q:Exit→Go.Act→World→Prop} {a:Go.Act} {w:World} (hm:P.follows .mixedOrders=true) (hd:L.all noDefer=true) (hL:¬ LetsOut Q)
  (h:wpAny P .any L.toArray Q L.toArray.size (Array.replicate L.toArray.size false) a { w with drawn:=w.drawn+1 }):(Code.region id L.toArray true).wpIn (rnd l) n P Q a w:=
 wpIn_region_any hm (wpAnyIn_of hL (by simpa using hd) _ _ _ _ h)
def Ob.room (l:List Nat):Ob where
 F:=l
 P:=fun w=>∀ k∈l,k<w.heap.size
 ok:=fun h hx _ k hk=>Nat.lt_of_lt_of_le (h k hk) hx.size
 lt:=fun h=>h
structure KeepsT (T:List Nat) (W W' : World):Prop where
 size:W.heap.size≤W'.heap.size
 same:∀ k∈T,W'.heap[k]? = W.heap[k]?
theorem KeepsT.of_ext {S T:List Nat} {A B:World} (h:Ext S A B) (hT:∀ k∈T,k<A.heap.size∧k∉S):KeepsT T A B:=⟨h.size,fun k hk=>h.block k (hT k hk).1 (hT k hk).2⟩
def SeqX {α:Type} (P:Program) (gf:Nat) (lb:Array Value) (encs:α→Array Value) (xs:List α) (T Kb:List Nat) (St:World→Prop):Prop:=
 ∀ (l:Nat) (J Jx:List α→World→Prop) (W:World),St W→
  (∀ p A B,J p A→Ext T A B→J p B)→(∀ p A B,Jx p A→Ext T A B→Jx p B)→
  (∀ pre x post W1,xs=pre++x::post→J pre W1→YieldAt Fence.wide 0 P l (encs x) W1 fun e W'=>
   (e=.returned (.bool true)∧J (pre++[x]) W'∧KeepsT Kb W1 W')∨(e=.returned (.bool false)∧Jx (pre++[x]) W'))→
  J [] W→
  CallsIn Fence.wide 0 P gf (#[.func (.yield l) #[] #[]]++lb) W fun e W'=>(∃ v,e=.returned v)∧(J xs W'∨∃ pre x post,xs=pre++x::post∧Jx (pre++[x]) W')
def roundGo {α:Type} (Kb:List Nat) (I:List α→World→Prop) (Ix:Code→List α→World→Prop) (D L:Nat) (xs:List α) (W:World):Exit→Go.Act→World→Prop
 | .normal,_,W'=>KeepsT (D::L::Kb) W W'∧I xs W'
 | .ret,_,W'=>KeepsT [D,L] W W'∧Ix .ret xs W'
 | .exit id,_,W'=>KeepsT [D,L] W W'∧Ix (.exit id) xs W'
 | .goto t,_,W'=>KeepsT [D,L] W W'∧Ix (.goto t) xs W'
 | .panic _,_,_=>False
 | .outgrown,_,_=>False
theorem Ext.putObj (W:World) (l:Nat) (o:Obj):Ext [l] W (W.putObj l o):=
 ⟨rfl,rfl,rfl,by simp,fun k _ hk=>World.putObj_heap_other (by simpa using hk)⟩
end
section
variable {P:Program} {ops:Array Oper} {md:Region.Mode} {C:World→Prop} {Q:Exit→Act→World→Prop}
def headP (md:Region.Mode) (ops:Array Oper):List Nat→Array Bool→Bool
 | [],_=>true
 | k::r,listed=>(Region.ready md ops listed).contains k&&Region.free md ops listed k&&headP md ops r (listed.setIfInBounds k true)
def listAll:List Nat→Array Bool→Array Bool
 | [],listed=>listed
 | k::r,listed=>listAll r (listed.setIfInBounds k true)
def pick (ops:Array Oper):List Nat→List Oper
 | []=>[]
 | k::r=>match ops[k]? with
  | some o=>o::pick ops r
  | none=>pick ops r
theorem anyC_perm {m r:Nat} {Lq:Act→Prop} {L:Array Bool→Act→World→Prop} {w:World} (hw:C w) (hQ:∀ c a d v w,Q (.panic c) (a.put d v) w→Q (.panic c) a w)
  (hsel:Region.noSelect ops=true) (hs:Region.sinkB md ops m=true) (hc:Region.chainB md ops m=true) (hm:m<ops.size) (hdone:∀ listed a w,L listed a w→∀ j∈Region.ready md ops listed,m≤j) (fin:Array Bool)
  (hL:∀ a,Lq a→anyC P md ops Q C m L r fin a w) :
  ∀ (π:List Nat) (listed:Array Bool) (a:Act),(∀ k∈π,k<m)→(∀ o∈pick ops π,noCall o=true)→HeadInv md ops m listed→headP md ops π listed=true→listAll π listed=fin→
   wpQuiet P ops C Lq (pick ops π) a→anyC P md ops Q C m L (π.length+r) listed a w:=by
 intro π
 induction π with
 | nil=>
  intro listed a _ _ _ _ hf h
  rw [List.length_nil,Nat.zero_add]
  have:listed=fin:=hf
  exact this ▸ hL a h
 | cons k π ih=>
  intro listed a hlt hn inv hB hf h
  have hkm:k<m:=hlt k (by simp)
  obtain⟨o,h0⟩:∃ o,ops[k]? = some o:=⟨_,Array.getElem?_eq_getElem (by omega)⟩
  simp only [headP,Bool.and_eq_true] at hB
  have hr:k∈Region.ready md ops listed:=by simpa using hB.1.1
  have hp:pick ops (k::π)=o::pick ops π:=by simp [pick,h0]
  rw [hp] at h hn
  have hq:qOp P ops C k (wpQuiet P ops C Lq (pick ops π)) a:=by unfold qOp; simp only [h0]; exact h
  obtain⟨v,hy,hK⟩:=yieldsIn_of_qOp h0 hq
  rw [List.length_cons,show π.length+1+r=(π.length+r)+1 by omega]
  refine anyC_first h0 (Region.noSelect_spec hsel) (fun c a w=>hQ c a _ _ w) hs hc hm hkm hdone (π.length+r) listed a w hw inv (Region.free_spec h0 hB.1.2) hr (yieldsIf_of_in (hn o (by simp)) hy) ?_
  exact ih _ _ (fun j hj=>hlt j (by simp [hj])) (fun o' ho'=>hn o' (by simp [ho'])) (inv.set hr hkm) hB.2 hf hK
def permB (ops:Array Oper) (π:List Nat) (m:Nat):Bool:=
 Region.noSelect ops&&decide (m<ops.size)&&Region.sinkB .any ops m&&Region.chainB .any ops m&&decide (π.length≤m)&&π.all (fun k=>decide (k<m))&&(pick ops π).all noCall&&headP .any ops π (Array.replicate ops.size false)
def TailW (P:Program) (ops:Array Oper) (Q:Exit→Act→World→Prop) (m:Nat) (late:List Oper) (listed:Array Bool) (a:Act) (w:World):Prop:=
 Region.seqB .any ops (ops.size - m) m listed=true∧wpList P ops Q late a w
theorem wpAny_perm {a:Act} {w:World} {l:List Oper} (π:List Nat) (m:Nat) (hB:permB l.toArray π m=true) (hC:C { w with drawn:=w.drawn+1 })
  (h:wpQuiet P l.toArray C (fun a'=>anyC P .any l.toArray (NoPanic Q) C m (TailW P l.toArray (NoPanic Q) m (l.drop m)) (m - π.length) (listAll π (Array.replicate l.toArray.size false)) a' w.drew) (pick l.toArray π) a) :
  wpAny P .any l.toArray (NoPanic Q) l.toArray.size (Array.replicate l.toArray.size false) a { w with drawn:=w.drawn+1 }:=by
 simp only [permB,Bool.and_eq_true,decide_eq_true_eq] at hB
 obtain⟨⟨⟨⟨⟨⟨⟨hsel,hn⟩,hs⟩,hc⟩,hle⟩,hlt⟩,hno⟩,hhead⟩:=hB
 have hdl:(l.drop m).length=l.toArray.size - m:=by simp
 have H:=anyC_perm (P:=P) (ops:=l.toArray) (md:=.any) (Q:=NoPanic Q) (C:=C) (m:=m) (r:=m - π.length)
  (L:=TailW P l.toArray (NoPanic Q) m (l.drop m)) (w:={ w with drawn:=w.drawn+1 })
  hC (fun _ _ _ _ _ h=>h) hsel hs hc hn (fun _ _ _ hL=>seqB_ready hL.1) _ (fun a' h'=>h') π (Array.replicate l.toArray.size false) a
  (fun k hk=>by simpa using List.all_eq_true.1 hlt k hk) (fun o ho=>List.all_eq_true.1 hno o ho) (headInv_start l m) hhead rfl h
 have:=wpAny_of_anyC (Q:=NoPanic Q) (g:=l.toArray.size - m) (fun listed a' w' hL=>by
  have:=wpAny_of_seq (md:=.any) (Q':=NoPanic Q) (l.drop m) m listed a' w' (fun j=>by simp [List.getElem?_drop]) (by rw [hdl]; exact hL.1) hL.2
  rwa [hdl] at this) _ _ _ _ H
 rw [show π.length+(m - π.length)+(l.toArray.size - m)=l.toArray.size by omega] at this
 exact this
theorem wp_region_perm {id:Nat} {a:Act} {w:World} {l:List Oper} (π:List Nat) (m:Nat) (hm:P.follows .mixedOrders=true) (hB:permB l.toArray π m=true) (hC:C { w with drawn:=w.drawn+1 })
  (h:wpQuiet P l.toArray C (fun a'=>anyC P .any l.toArray (NoPanic Q) C m (TailW P l.toArray (NoPanic Q) m (l.drop m)) (m - π.length) (listAll π (Array.replicate l.toArray.size false)) a' w.drew) (pick l.toArray π) a):(Code.region id l.toArray true).wp P Q a w:=
 wp_region_noPanic (wp_region_any hm (wpAny_perm π m hB hC h))
theorem wpOp_plain {i:Nat} {o:Oper} {K:Act→World→Prop} {a:Act} {w:World} (ho:ops[i]? = some o) (hg:o.guard=none) (h:∀ K' : Act→World→Prop,(∀ a w,K a w→K' a w)→o.wp P a w K' Q):wpOp P ops Q i K a w:=by
 unfold wpOp
 simp only [ho]
 rw [if_pos (by simp [Region.wanted,hg])]
 exact .inl (h _ fun _ _ h=>h)
theorem anyC_end {m:Nat} {late:List Oper} {listed:Array Bool} {a:Act} {w:World} (hs:Region.seqB .any ops (ops.size - m) m listed=true) (h:wpList P ops Q late a w) :
  anyC P .any ops Q C m (TailW P ops Q m late) 0 listed a w:=⟨hs,h⟩
theorem anyC_one {m f i:Nat} {o:Oper} {L:Array Bool→Act→World→Prop} {listed:Array Bool} {a:Act} {w:World} (hr:Region.ready md ops listed=[i]) (hi:i<m) (ho:ops[i]? = some o) (hg:o.guard=none)
  (h:∀ K:Act→World→Prop,(∀ a' w',C w'→anyC P md ops Q C m L f (listed.setIfInBounds i true) a' w'→K a' w')→o.wp P a w K Q):anyC P md ops Q C m L (f+1) listed a w:=by
 refine⟨by rw [hr]; simp,fun k hk=>?_⟩
 rw [hr] at hk
 obtain rfl:k=i:=by simpa using hk
 exact⟨hi,wpOp_plain ho hg fun K' hK=>h K' fun a' w' h1 h2=>hK a' w' ⟨h1,h2⟩⟩
theorem anyC_two {m f i j:Nat} {o o' : Oper} {L:Array Bool→Act→World→Prop} {listed:Array Bool} {a:Act} {w:World} (hr:Region.ready md ops listed=[i,j]) (hi:i<m) (hj:j<m) (ho:ops[i]? = some o) (hg:o.guard=none) (ho' : ops[j]? = some o') (hg' : o'.guard=none)
  (h:∀ K:Act→World→Prop,(∀ a' w',C w'→anyC P md ops Q C m L f (listed.setIfInBounds i true) a' w'→K a' w')→o.wp P a w K Q)
  (h' : ∀ K:Act→World→Prop,(∀ a' w',C w'→anyC P md ops Q C m L f (listed.setIfInBounds j true) a' w'→K a' w')→o'.wp P a w K Q):anyC P md ops Q C m L (f+1) listed a w:=by
 refine⟨by rw [hr]; simp,fun k hk=>?_⟩
 rw [hr] at hk
 rcases List.mem_cons.1 hk with rfl | hk
 ·exact⟨hi,wpOp_plain ho hg fun K' hK=>h K' fun a' w' h1 h2=>hK a' w' ⟨h1,h2⟩⟩
 ·obtain rfl:k=j:=by simpa using hk
  exact⟨hj,wpOp_plain ho' hg' fun K' hK=>h' K' fun a' w' h1 h2=>hK a' w' ⟨h1,h2⟩⟩
theorem wp_append_run {o:Oper} {a:Act} {w w' : World} {K:Act→World→Prop} (s x:Operand) (t tx:TypeId) (ho:o.op=.call { callee:=.builtin .append,args:=#[s,x],argTypes:=#[t,tx]}) {v xv r:Value}
  (hs:a.eval s=v) (hx:a.eval x=xv) (hr:(Builtin.append_ #[t,tx] o.type #[v,xv]).run P w=.ok r w') (h:K (a.put o.dst r) w'):o.wp P a w K Q:=by
 unfold Oper.wp execOp
 simp only [ho,resolve,invoke,builtin,Sem.run_bind,Sem.run_pure,Result.andThen_ok,List.map_toArray,List.map_cons,List.map_nil,hs,hx,hr]
 exact h
end
end Go.Proofs.YtljachhmdogkdaaGreatDoor
