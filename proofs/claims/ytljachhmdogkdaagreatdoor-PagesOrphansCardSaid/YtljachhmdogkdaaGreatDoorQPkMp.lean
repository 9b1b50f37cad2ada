/-
 Texts PkMp, as far as the statement needs them.
-/
import Derived.Test.YtljachhmdogkdaaGreatDoorQPkA
import Derived.Maps.Own
import Derived.Maps.OwnSet
import Derived.Maps.OwnOps
import Derived.Maps.Views
import Derived.Carry
import Derived.Maps.Range
import Derived.Maps.RangeWalk
set_option maxRecDepth 100000
set_option maxHeartbeats 64000000
namespace Go.Proofs.YtljachhmdogkdaaGreatDoor
namespace Mp
open Go.RowKit Go.Maps Go.WideElems Go.ChangeMaps
def RH:Value→Option (DataW Value×List MemPlace):=fun v=>some (.held v,[])
section
variable {κ:Type} {P:Program} {k:TypeId} {mk:κ→Value} {w:World} {b n:Nat} {f:κ→Option Value}
def MapAt (P:Program) (k:TypeId) (mk:κ→Value) (w:World) (b n:Nat) (f:κ→Option Value):Prop:=
 ∃ D:DataW Value,w.ownsMap P k RH b n D∧∀ x kl,keyOf P k (mk x)=some kl→(∀ v,f x=some v→∀ z,D.atKey kl z=.held v)∧(f x=none→Maps.has D kl=false)
theorem MapAt.made (w:World) (P:Program) (k:TypeId) (mk:κ→Value):MapAt P k mk (w.alloc (.map #[] 0)) w.heap.size 0 (fun _=>none):=
 ⟨_,World.ownsMap_made _ _ _ _,fun x kl _=>⟨fun v h=>(by cases h),fun _=>rfl⟩⟩
theorem MapAt.lt (h:MapAt P k mk w b n f):b<w.heap.size:=by obtain⟨D,h,-⟩:=h; exact h.lt
theorem MapAt.ext {S:List Nat} {w' : World} (h:MapAt P k mk w b n f) (hx:Ext S w w') (hS:b∉S):MapAt P k mk w' b n f:=by
 obtain⟨D,⟨es,clock,hb,F,hs,hD⟩,hf⟩:=h
 exact⟨D,⟨es,clock,hx.keep hb hS,F,hs,hD⟩,hf⟩
theorem MapAt.mono (h:MapAt P k mk w b n f) {n' : Nat} (hn:n≤n'):MapAt P k mk w b n' f:=by
 obtain⟨D,h,hf⟩:=h
 exact⟨D,h.mono hn,hf⟩
theorem MapAt.look_ok {t e:TypeId} (h:MapAt P k mk w b n f) (K:Keyed P k) (ht:P.underlying t=some (.map k e)) {z:Value} (hz:(zeroValue e).run P w=.ok z w) {x:κ} {kl:Lit} (hkey:keyOf P k (mk x)=some kl) :
  (Instr.lookup t (.map (some b)) (mk x) true).run P w=.ok (.tuple #[(f x).getD z,.bool (f x).isSome]) w:=by
 obtain⟨D,h,hf⟩:=h
 obtain⟨v,ps,h1,h2⟩:=h.look_ok K ht hz (zd:=.held z) (zp:=[]) rfl hkey
 unfold RH at h2
 simp only [Option.some.injEq,Prod.mk.injEq] at h2
 obtain⟨q1,q2⟩:=hf x kl hkey
 cases hfx:f x with
 | none=>
  have h3:=q2 hfx
  rw [Maps.atKey_of_not_has h3] at h2
  have h4:=h2.1
  injection h4 with h4
  rw [h3,h4] at h1
  exact h1
 | some u=>
  have h3:=q1 u hfx
  rw [h3] at h2
  have h4:=h2.1
  injection h4 with h4
  rw [Maps.has_true_of_atKey h3,h4] at h1
  exact h1
theorem MapAt.look {t e:TypeId} (h:MapAt P k mk w b n f) (K:Keyed P k) (ht:P.underlying t=some (.map k e)) {z:Value} (hz:(zeroValue e).run P w=.ok z w) {x:κ} {kl:Lit} (hkey:keyOf P k (mk x)=some kl) :
  (Instr.lookup t (.map (some b)) (mk x) false).run P w=.ok ((f x).getD z) w:=by
 obtain⟨D,h,hf⟩:=h
 obtain⟨v,ps,h1,h2⟩:=h.lookup K ht hz (zd:=.held z) (zp:=[]) rfl hkey
 unfold RH at h2
 simp only [Option.some.injEq,Prod.mk.injEq] at h2
 obtain⟨q1,q2⟩:=hf x kl hkey
 cases hfx:f x with
 | none=>
  rw [Maps.atKey_of_not_has (q2 hfx)] at h2
  have h4:=h2.1
  injection h4 with h4
  rw [h4] at h1
  exact h1
 | some u=>
  rw [q1 u hfx] at h2
  have h4:=h2.1
  injection h4 with h4
  rw [h4] at h1
  exact h1
theorem ext_turned {w w' : World} {b:Nat} (h:w.mapTurned w' b):Ext [b] w w':=
 (Ext.refl [b] w).grown h.grown (fun k hk=>.inl (by cases hk; simp))
theorem MapAt.store [DecidableEq κ] {t e:TypeId} (h:MapAt P k mk w b n f) (K:Keyed P k) (hmk:∀ x y,mk x=mk y→x=y) (ht:P.underlying t=some (.map k e)) (hn:n<maxLen) {x:κ} {kl:Lit} (hkey:keyOf P k (mk x)=some kl) (val:Value) :
  ∃ w',(Instr.mapUpdate t (.map (some b)) (mk x) val).run P w=.ok () w'∧MapAt P k mk w' b (n+1) (fun y=>if y=x then some val else f y)∧Ext [b] w w':=by
 obtain⟨D,h,hf⟩:=h
 obtain⟨w',h1,h2,h3⟩:=h.store K ht hn hkey (val:=val) (d:=.held val) (ps:=[]) rfl
 refine⟨w',h1,⟨_,h2,fun y yl hy=>?_⟩,ext_turned h3⟩
 by_cases hyx:y=x
 ·subst hyx
  obtain rfl:yl=kl:=Option.some.inj (hy.symm.trans hkey)
  dsimp only
  rw [if_pos rfl]
  refine⟨fun v hv z=>?_,fun h=>by cases h⟩
  obtain rfl:=Option.some.inj hv
  exact Maps.atKey_put_same h.isMap (K.key hkey) _ _
 ·dsimp only
  rw [if_neg hyx]
  have hne:yl≠kl:=fun e=>hyx (hmk _ _ (K.inj (by rw [hy,e]) hkey))
  obtain⟨q1,q2⟩:=hf y yl hy
  exact⟨fun v hv z=>by rw [Maps.atKey_put_other hne]; exact q1 v hv z,fun hv=>by rw [Maps.has_put_other hne]; exact q2 hv⟩
def oMp (P:Program) (k:TypeId) (mk:κ→Value) (b n:Nat) (f:κ→Option Value):Ob where
 F:=[b]
 P:=fun w=>MapAt P k mk w b n f
 ok:=fun h hx hS=>h.ext hx (hS b (by simp))
 lt:=fun h q hq=>by
  obtain rfl:q=b:=by simpa using hq
  exact h.lt
theorem wpList_store_mp [DecidableEq κ] {ops:Array Oper} {rest:List Oper} {o:Oper} {a:Act} {Q:Exit→Act→World→Prop} (hg:o.guard=none) (m x v:Operand) (t:TypeId) (hop:o.op=Op.mapUpdate t m x v)
  (e:TypeId) (K:Keyed P k) (hmk:∀ x y,mk x=mk y→x=y) (ht:P.underlying t=some (.map k e)) (hm:a.eval m=.map (some b)) (h:MapAt P k mk w b n f) (hn:n<maxLen) (y:κ) (val:Value) (kl:Lit) (hx:a.eval x=mk y) (hv:a.eval v=val) (hkey:keyOf P k (mk y)=some kl)
  (hK:∀ w',MapAt P k mk w' b (n+1) (fun q=>if q=y then some val else f q)→Ext [b] w w'→wpList P ops Q rest (a.put o.dst undef) w') :
  wpList P ops Q (o::rest) a w:=by
 refine wpList_plain hg fun K' hK'=>?_
 obtain⟨w',hrun,r1,r2⟩:=h.store K hmk ht hn hkey val
 unfold Oper.wp
 simp [execOp,hop,hm,hx,hv,hrun,Result.andThen]
 exact hK' _ _ (hK w' r1 r2)
end
abbrev mkI:Int→Value:=fun x=>.int .i64 x
theorem mkI_inj:∀ x y:Int,mkI x=mkI y→x=y:=fun x y h=>by injection h
section
variable {κ:Type} {P:Program} {k:TypeId} {mk:κ→Value} {w:World} {b r n cnt:Nat} {f:κ→Option Value} {left:κ→Bool}
def RangeAt (P:Program) (k:TypeId) (mk:κ→Value) (w:World) (b r n:Nat) (f:κ→Option Value) (left:κ→Bool) (cnt:Nat):Prop:=
 ∃ (D:DataW Value) (L:Lit→Bool),w.ranges P k RH b r n D L cnt∧(∀ x kl,keyOf P k (mk x)=some kl→(∀ v,f x=some v→∀ z,D.atKey kl z=.held v)∧(f x=none→Maps.has D kl=false))∧
  (∀ x kl,keyOf P k (mk x)=some kl→L kl=left x)∧∀ x kl,keyOf P k (mk x)=some kl→left x=true→(f x).isSome=true
theorem RangeAt.map (h:RangeAt P k mk w b r n f left cnt):MapAt P k mk w b n f:=by
 obtain⟨D,L,h1,h2,-⟩:=h
 exact⟨D,h1.owns,h2⟩
theorem RangeAt.lt (h:RangeAt P k mk w b r n f left cnt):r<w.heap.size:=by obtain⟨D,L,h1,-⟩:=h; exact h1.lt
theorem RangeAt.ext {S:List Nat} {w' : World} (h:RangeAt P k mk w b r n f left cnt) (hx:Ext S w w') (hb:b∉S) (hr:r∉S):RangeAt P k mk w' b r n f left cnt:=by
 obtain⟨D,L,⟨es,clock,since,seen,c0,h1,F,h2,h3,h4,h5⟩,hf⟩:=h
 exact⟨D,L,⟨es,clock,since,seen,c0,hx.keep h1 hb,F,h2,h3,hx.keep h4 hr,h5⟩,hf⟩
theorem MapAt.range {t e:TypeId} (h:MapAt P k mk w b n f) (K:Keyed P k) (ht:P.underlying t=some (.map k e)) :
  ∃ w' cnt,(Instr.range t (.map (some b))).run P w=.ok (.pointer (some ⟨w.heap.size,0,none⟩)) w'∧RangeAt P k mk w' b w.heap.size n f (fun x=>(f x).isSome) cnt∧Ext [] w w'∧w'.heap.size=w.heap.size+1:=by
 obtain⟨D,h,hf⟩:=h
 obtain⟨w',h1,h2,h3,h4⟩:=h.range K ht
 refine⟨w',_,h1,⟨D,_,h2,hf,fun x kl hk=>?_,fun x kl _ hl=>hl⟩,(Ext.refl [] w).grown h3 (fun k hk=>(by cases hk)),h4⟩
 obtain⟨q1,q2⟩:=hf x kl hk
 cases hfx:f x with
 | none=>rw [q2 hfx]; simp [hfx]
 | some v=>rw [Maps.has_true_of_atKey (q1 v hfx)]; simp [hfx]
theorem RangeAt.next [DecidableEq κ] (h:RangeAt P k mk w b r n f left cnt) (K:Keyed P k) (hmk:∀ x y,mk x=mk y→x=y) (inv:∀ key kl,keyOf P k key=some kl→∃ x,key=mk x) (ty:TypeId) :
  (cnt=0∧(∀ x kl,keyOf P k (mk x)=some kl→left x=false)∧(Instr.next (.pointer (some ⟨r,0,none⟩)) false ty).run P w=.ok (.tuple #[.bool false]) w)∨
  ∃ x kl v w' cnt',keyOf P k (mk x)=some kl∧left x=true∧f x=some v∧(Instr.next (.pointer (some ⟨r,0,none⟩)) false ty).run P w=.ok (.tuple #[.bool true,mk x,v]) w'∧
   RangeAt P k mk w' b r n f (fun y=>left y && !decide (y=x)) cnt'∧cnt' < cnt∧Ext [r] w w'∧(Instr.entry (.pointer (some ⟨r,0,none⟩))).run P w' = .ok (.tuple #[mk x,v]) w':=by
 obtain⟨D,L,h,hf,hl,hs⟩:=h
 rcases h.next K ty with ⟨h0,h1,h2⟩ | ⟨key,v,kl,y,w',cnt',hk,hkl,hv,hat,hrun,hrg,hlt,hgr,hsz,hen⟩
 ·exact .inl ⟨h0,fun x kl hk=>by rw [←hl x kl hk]; exact h1 kl,h2⟩
 ·obtain⟨x,rfl⟩:=inv key kl hk
  unfold RH at hv
  obtain rfl:=Option.some.inj hv
  have hlx:left x=true:=by rw [←hl x kl hk]; exact hkl
  obtain⟨q1,-⟩:=hf x kl hk
  have hfx:f x=some v:=by
   have h3:=hs x kl hk hlx
   cases hfx:f x with
   | none=>rw [hfx] at h3; cases h3
   | some u=>
    have h4:=q1 u hfx (.held u)
    rw [hat (.held u)] at h4
    injection h4 with h4
    rw [h4]
  refine .inr ⟨x,kl,v,w',cnt',hk,hlx,hfx,hrun,⟨D,_,hrg,hf,fun z zl hz=>?_,fun z zl hz hzl=>hs z zl hz (by simp at hzl; exact hzl.1)⟩,hlt,(Ext.refl [r] w).grown hgr (fun q hq=>.inl (by cases hq; simp)),hen⟩
  dsimp only
  rw [hl z zl hz]
  by_cases hzx:z=x
  ·subst hzx
   obtain rfl:zl=kl:=Option.some.inj (hz.symm.trans hk)
   rw [WideAt.sameKey_self (K.key hk)]
   simp
  ·have hne:zl≠kl:=fun e=>hzx (hmk _ _ (K.inj (by rw [hz,e]) hk))
   have:zl.sameKey kl=false:=by
    cases hq:zl.sameKey kl with
    | false=>rfl
    | true=>exact absurd (WideAt.sameKey_eq hq) hne
   rw [this]
   simp [hzx]
def oRg (P:Program) (k:TypeId) (mk:κ→Value) (b r n:Nat) (f:κ→Option Value) (left:κ→Bool) (cnt:Nat):Ob where
 F:=[b,r]
 P:=fun w=>RangeAt P k mk w b r n f left cnt
 ok:=fun h hx hS=>h.ext hx (hS b (by simp)) (hS r (by simp))
 lt:=fun h q hq=>by
  rcases List.mem_cons.1 hq with rfl | hq
  ·exact h.map.lt
  ·obtain rfl:q=r:=by simpa using hq
   exact h.lt
theorem wpList_range_mp {ops:Array Oper} {rest:List Oper} {o:Oper} {a:Act} {Q:Exit→Act→World→Prop} (hg:o.guard=none) (m:Operand) (t:TypeId) (hop:o.op=Op.range t m)
  (e:TypeId) (K:Keyed P k) (ht:P.underlying t=some (.map k e)) (hm:a.eval m=.map (some b)) (h:MapAt P k mk w b n f)
  (hK:∀ w' cnt,RangeAt P k mk w' b w.heap.size n f (fun x=>(f x).isSome) cnt→Ext [] w w'→w'.heap.size=w.heap.size+1→wpList P ops Q rest (a.put o.dst (.pointer (some ⟨w.heap.size,0,none⟩))) w') :
  wpList P ops Q (o::rest) a w:=by
 refine wpList_plain hg fun K' hK'=>?_
 obtain⟨w',cnt,hrun,r1,r2,r3⟩:=h.range K ht
 unfold Oper.wp
 simp [execOp,hop,hm,hrun,Result.andThen]
 exact hK' _ _ (hK w' cnt r1 r2 r3)
theorem wpList_next_mp [DecidableEq κ] {ops:Array Oper} {rest:List Oper} {o:Oper} {a:Act} {Q:Exit→Act→World→Prop} (hg:o.guard=none) (it:Operand) (hop:o.op=Op.next it false)
  (K:Keyed P k) (hmk:∀ x y,mk x=mk y→x=y) (inv:∀ key kl,keyOf P k key=some kl→∃ x,key=mk x) (hit:a.eval it=.pointer (some ⟨r,0,none⟩)) (h:RangeAt P k mk w b r n f left cnt)
  (hDone:cnt=0→(∀ x kl,keyOf P k (mk x)=some kl→left x=false)→wpList P ops Q rest (a.put o.dst (.tuple #[.bool false])) w)
  (hMore:∀ x kl v w' cnt',keyOf P k (mk x)=some kl→left x=true→f x=some v→RangeAt P k mk w' b r n f (fun y=>left y && !decide (y=x)) cnt'→cnt' < cnt→Ext [r] w w'→
   (Instr.entry (.pointer (some ⟨r,0,none⟩))).run P w' = .ok (.tuple #[mk x,v]) w'→wpList P ops Q rest (a.put o.dst (.tuple #[.bool true,mk x,v])) w') :
  wpList P ops Q (o::rest) a w:=by
 refine wpList_plain hg fun K' hK'=>?_
 unfold Oper.wp
 rcases h.next K hmk inv o.type with ⟨h0,hl,hrun⟩ | ⟨x,kl,v,w',cnt',hk,hlx,hfx,hrun,hrg,hlt,hx,hen⟩
 ·simp [execOp,hop,hit,hrun,Result.andThen]
  exact hK' _ _ (hDone h0 hl)
 ·simp [execOp,hop,hit,hrun,Result.andThen]
  exact hK' _ _ (hMore x kl v w' cnt' hk hlx hfx hrg hlt hx hen)
theorem wpList_insert_mp [DecidableEq κ] {ops:Array Oper} {rest:List Oper} {o:Oper} {a:Act} {Q:Exit→Act→World→Prop} (hg:o.guard=none) (m x v:Operand) (t:TypeId) (hop:o.op=Op.insert t m x v)
  (e:TypeId) (K:Keyed P k) (hmk:∀ x y,mk x=mk y→x=y) (ht:P.underlying t=some (.map k e)) (hm:a.eval m=.map (some b)) (h:MapAt P k mk w b n f) (hn:n<maxLen) (y:κ) (val:Value) (kl:Lit) (hx:a.eval x=mk y) (hv:a.eval v=val) (hkey:keyOf P k (mk y)=some kl)
  (hK:∀ w',MapAt P k mk w' b (n+1) (fun q=>if q=y then some val else f q)→Ext [b] w w'→wpList P ops Q rest (a.put o.dst undef) w') :
  wpList P ops Q (o::rest) a w:=by
 refine wpList_plain hg fun K' hK'=>?_
 obtain⟨w',hrun,r1,r2⟩:=h.store K hmk ht hn hkey val
 unfold Oper.wp
 simp [execOp,hop,hm,hx,hv,hrun,Result.andThen]
 exact hK' _ _ (hK w' r1 r2)
theorem wp_insert_mp [DecidableEq κ] {o:Oper} {a:Act} {Q:Exit→Act→World→Prop} {K' : Act→World→Prop} (m x v:Operand) (t:TypeId) (hop:o.op=Op.insert t m x v)
  (e:TypeId) (K:Keyed P k) (hmk:∀ x y,mk x=mk y→x=y) (ht:P.underlying t=some (.map k e)) (hm:a.eval m=.map (some b)) (h:MapAt P k mk w b n f) (hn:n<maxLen) (y:κ) (val:Value) (kl:Lit) (hx:a.eval x=mk y) (hv:a.eval v=val) (hkey:keyOf P k (mk y)=some kl)
  (hK:∀ w',MapAt P k mk w' b (n+1) (fun q=>if q=y then some val else f q)→Ext [b] w w'→K' (a.put o.dst undef) w'):o.wp P a w K' Q:=by
 obtain⟨w',hrun,r1,r2⟩:=h.store K hmk ht hn hkey val
 unfold Oper.wp
 simp [execOp,hop,hm,hx,hv,hrun,Result.andThen]
 exact hK w' r1 r2
end
end Mp
open Go.RowKit
section
variable {P:Program}
def SeqM {α:Type} (P:Program) (gf:Nat) (lb:Array Value) (encs:α→Array Value) (Nx:List α→α→Prop) (Dn:List α→Prop) (T:Nat→List Nat) (Kb:List Nat) (St:World→Prop):Prop:=
 ∀ (l:Nat) (J Jx:List α→World→Prop) (W:World),St W→
  (∀ p A B,J p A→Ext (T W.heap.size) A B→J p B)→(∀ p A B,Jx p A→Ext (T W.heap.size) A B→Jx p B)→
  (∀ pre x W1,Nx pre x→(∀ k∈T W.heap.size,k<W1.heap.size)→J pre W1→YieldAt Fence.wide 0 P l (encs x) W1 fun e W'=>
   (e=.returned (.bool true)∧J (pre++[x]) W'∧KeepsT (T W.heap.size++Kb) W1 W')∨(e=.returned (.bool false)∧Jx (pre++[x]) W'))→
  J [] W→
  CallsIn Fence.wide 0 P gf (#[.func (.yield l) #[] #[]]++lb) W fun e W'=>(∃ v,e=.returned v)∧((∃ xs,Dn xs∧J xs W')∨∃ pre x,Nx pre x∧Jx (pre++[x]) W')
theorem wp_rangeM {α:Type} {g:Operand} {ps:Array Tmp} {assign body:Code} {Q:Exit→Go.Act→World→Prop} {a:Go.Act} {w:World}
  {gf:Nat} {lb:Array Value} (hg:a.eval g=.func (.func gf) #[] lb) (eg:∀ args w,(callFunc gf args).run P w=.ok (.enter gf args) w)
  {encs:α→Array Value} {Nx:List α→α→Prop} {Dn:List α→Prop} {T:Nat→List Nat} {Kb:List Nat} {St:World→Prop} (hseq:SeqM P gf lb encs Nx Dn T Kb St) (hps:∀ x,(encs x).size=ps.size)
  (D L:Nat) (hD:w.heap.size=D) (hL:w.heap.size+1=L) (TT:List Nat) (hTT:T (w.heap.size+2)=TT) (hT:D∉TT∧L∉TT) (hK:∀ k∈Kb,k<w.heap.size)
  (hSt:∀ W,Ext [] w W→St W)
  (I:List α→World→Prop) (Ix:Code→List α→World→Prop) (hI:∀ p A B,I p A→Ext (D::L::TT) A B→I p B) (hIx:∀ c p A B,Ix c p A→Ext (D::L::TT) A B→Ix c p B)
  (h0:∀ W,Ext [] w W→W.heap.size=w.heap.size+2→I [] W)
  (hround:∀ (pre:List α) (x:α) (W:World),Nx pre x→(∀ k∈TT,k<W.heap.size)→I pre W→L<W.heap.size→
   assign.wpIn (rnd L) 0 P (Exit.then (fun a' W'=>Ext [] W W'∧∀ o,body.wpIn (rnd L) 0 P (roundGo (TT++Kb) I Ix D L (pre++[x]) (W'.putObj L o)) a' (W'.putObj L o)) (fun _ _ _=>False)) { tmps:=(ps.zip (encs x)).foldl (fun t (p,v)=>t.setIfInBounds p v) a.tmps,defers:=[]} W)
  (hdone:∀ (xs:List α) (W:World),Dn xs→I xs W→W.heap[D]? = some (.deferred (some []))→Q .normal { a with defers:={ target:=.collected D,args:=#[]}::a.defers } W)
  (hstop:∀ (c:Code) (pre:List α) (x:α) (W:World),Nx pre x→Ix c (pre++[x]) W→W.heap[D]? = some (.deferred (some []))→c.wp P Q { a with defers:={ target:=.collected D,args:=#[]}::a.defers } W) :
  (Code.rangeFunc g ps assign body).wp P Q a w:=by
 refine (wpIn_wide (n:=0)).1 (wpIn_rangeFunc ?_)
 intro fn hfn
 obtain⟨rec,hrec⟩:∃ rec:LoopState→Option Code→Loop,rec=fun st pe=>{ state:=st,pending:=pe,fn,tmps:=a.tmps,params:=ps,assign,body,defers:=w.heap.size }:=⟨_,rfl⟩
 obtain⟨W1,hW1⟩:∃ W1,(w.alloc (.deferred (some []))).alloc (.loop (rec .ready none))=W1:=⟨_,rfl⟩
 have hDL:D≠L:=by omega
 have hx1:Ext [] w W1:=by rw [←hW1]; exact ((Ext.refl [] w).alloc _).alloc _
 have hs1:W1.heap.size=w.heap.size+2:=by rw [←hW1]; simp
 have hL1:W1.heap[L]? = some (.loop (rec .ready none)):=by
  rw [←hW1,←hL]; have:=World.alloc_heap_new (w.alloc (.deferred (some []))) (.loop (rec .ready none)); rwa [World.size_alloc] at this
 have hK1:W1.heap[D]? = some (.deferred (some [])):=by
  rw [←hW1,←hD]; exact (Below.heap_alloc _ _ _ (by simp)).trans (World.alloc_heap_new w _)
 have hTD:D∉TT:=hT.1
 have hTL:L∉TT:=hT.2
 have hTE:T W1.heap.size=TT:=by rw [hs1]; exact hTT
 have hKD:D∉Kb:=fun q=>by have:=hK D q; omega
 have hKL:L∉Kb:=fun q=>by have:=hK L q; omega
 have weak:∀ {A B:World},Ext TT A B→Ext (D::L::TT) A B:=fun h=>h.mono (fun i _ hi=>by simp [hi])
 have wl:∀ {A:World} {o:Obj},Ext (D::L::TT) A (A.putObj L o):=fun {A o}=>(Ext.putObj A L o).mono (fun i _ hi=>by simp at hi; simp [hi])
 refine⟨L,[{ target:=.collected D,args:=#[]}],W1,{ target:=.fn (.func gf) lb,args:=#[.func (.yield L) #[] #[]]},W1,gf,
  #[.func (.yield L) #[] #[]]++lb,W1,?_,?_,fun _ _=>trivial,?_,fun q=>by simp [Fence.wide] at q,?_⟩
 ·rw [←hW1,hrec,←hD,←hL]; exact run_enterLoop_outer _ _ _ _ _
 ·simp only [resolve,hg]
  simp [go_sem]
 ·simp [invoke,go_sem,eg]
 ·refine (hseq L
   (fun pre W=>I pre W∧W.heap[L]? = some (.loop (rec .ready none))∧W.heap[D]? = some (.deferred (some [])))
   (fun pre W=>∃ c,Ix c pre W∧W.heap[L]? = some (.loop (rec .done (some c)))∧W.heap[D]? = some (.deferred (some [])))
   W1 (hSt _ hx1)
   (fun p A B h hx=>by rw [hTE] at hx; exact⟨hI _ _ _ h.1 (weak hx),hx.keep h.2.1 hTL,hx.keep h.2.2 hTD⟩)
   (fun p A B h hx=>by rw [hTE] at hx; obtain⟨c,h1,h2,h3⟩:=h; exact⟨c,hIx _ _ _ _ h1 (weak hx),hx.keep h2 hTL,hx.keep h3 hTD⟩)
   ?_ ⟨h0 _ hx1 hs1,hL1,hK1⟩).mono ?_
  ·rintro pre x W hxs hts ⟨hi,hl,hk⟩
   rw [hTE] at hts ⊢
   have hlt:L<W.heap.size:=lt_of_block hl
   have hy:=run_yield (P:=P) (args:=encs x) hl (by rw [hrec]; exact hps x)
   rw [hrec] at hy
   refine⟨fn,_,assign,body,hy,roundIn_of_wpIn hfn (wpIn_mono (hround pre x W hxs hts hi hlt) ?_)⟩
   rintro e a1 W0 h1
   cases e with
   | ret=>exact h1.elim
   | exit id=>exact h1.elim
   | goto t=>exact h1.elim
   | panic ch=>exact h1.elim
   | outgrown=>exact h1.elim
   | normal=>
   obtain⟨hx0,hbody⟩:=h1
   have hl0:=hx0.keep hl (by simp)
   have hk0:=hx0.keep hk (by simp)
   refine⟨_,run_beginRound hl0 (by rw [hrec]),?_⟩
   obtain⟨V,hV⟩:∃ V,W0.putObj L (.loop { rec .ready none with state:=.busy })=V:=⟨_,rfl⟩
   rw [hV]
   have hbody:=hbody (.loop { rec .ready none with state:=.busy })
   rw [hV] at hbody
   have hv:Ext [L] W0 V:=by rw [←hV]; exact Ext.putObj _ _ _
   have hl2:V.heap[L]? = some (.loop { rec .ready none with state:=.busy }):=by rw [←hV]; exact World.putObj_heap_same (Nat.lt_of_lt_of_le hlt hx0.size)
   have hk2:V.heap[D]? = some (.deferred (some [])):=hv.keep hk0 (by simpa using hDL)
   refine wpIn_mono hbody ?_
   have fin:∀ (jump:Option Code) (W3:World),KeepsT [D,L] V W3→
     (Instr.endRound L jump).run P W3=.ok (.bool jump.isNone) (W3.putObj L (.loop (rec (if jump.isNone then .ready else .done) jump)))∧
     (W3.putObj L (.loop (rec (if jump.isNone then .ready else .done) jump))).heap[L]? = some (.loop (rec (if jump.isNone then .ready else .done) jump))∧
     (W3.putObj L (.loop (rec (if jump.isNone then .ready else .done) jump))).heap[D]? = some (.deferred (some [])):=fun jump W3 hk3=>by
    have hl3:=(hk3.same L (by simp)).trans hl2
    have hd3:=(hk3.same D (by simp)).trans hk2
    have:=run_endRound (P:=P) jump hl3
    rw [hrec] at this ⊢
    exact⟨this,World.putObj_heap_same (lt_of_block hl3),(World.putObj_heap_other hDL).trans hd3⟩
   rintro e a3 W3 hp
   cases e with
   | normal=>
    obtain⟨hk3,hi3⟩:=hp
    obtain⟨hr,hl4,hk4⟩:=fin none W3 ⟨hk3.size,fun k hk=>hk3.same k (by simp at hk ⊢; rcases hk with h | h <;> simp [h])⟩
    refine⟨_,_,hr,.inl ⟨rfl,⟨hI _ _ _ hi3 wl,hl4,hk4⟩,?_⟩⟩
    have f1:∀ k∈TT++Kb,k≠L:=fun k hk e=>by
     subst e
     rcases List.mem_append.1 hk with hk | hk
     ·exact hTL hk
     ·exact hKL hk
    have f2:∀ k∈TT++Kb,k<W.heap.size:=fun k hk=>by
     rcases List.mem_append.1 hk with hk | hk
     ·exact hts k hk
     ·have:=hK k hk; omega
    exact⟨by have:=hv.size; have:=hk3.size; have:=hx0.size; simp; omega,fun k hk=>(((World.putObj_heap_other (f1 k hk)).trans (hk3.same k (List.mem_cons_of_mem _ (List.mem_cons_of_mem _ hk)))).trans (by rw [←hV]; exact World.putObj_heap_other (f1 k hk))).trans (hx0.block k (f2 k hk) (by simp))⟩
   | ret=>
    obtain⟨hk3,hi3⟩:=hp
    obtain⟨hr,hl4,hk4⟩:=fin (some .ret) W3 hk3
    exact⟨_,_,hr,.inr ⟨rfl,.ret,hIx _ _ _ _ hi3 wl,hl4,hk4⟩⟩
   | exit id=>
    obtain⟨hk3,hi3⟩:=hp
    obtain⟨hr,hl4,hk4⟩:=fin (some (.exit id)) W3 hk3
    exact⟨_,_,hr,.inr ⟨rfl,.exit id,hIx _ _ _ _ hi3 wl,hl4,hk4⟩⟩
   | goto t=>
    obtain⟨hk3,hi3⟩:=hp
    obtain⟨hr,hl4,hk4⟩:=fin (some (.goto t)) W3 hk3
    exact⟨_,_,hr,.inr ⟨rfl,.goto t,hIx _ _ _ _ hi3 wl,hl4,hk4⟩⟩
   | panic ch=>exact hp.elim
   | outgrown=>exact hp.elim
  ·rintro e W2 ⟨⟨v,rfl⟩,(⟨xs,hdn,hi,hl,hk⟩ | ⟨pre,x,hxs,c,hi,hl,hk⟩)⟩
   ·exact⟨none,_,by have:=run_endLoop (P:=P) hl (by rw [hrec]; simp); rw [hrec] at this; exact this,hdone xs _ hdn (hI _ _ _ hi wl) ((World.putObj_heap_other hDL).trans hk)⟩
   ·exact⟨some c,_,by have:=run_endLoop (P:=P) hl (by rw [hrec]; simp); rw [hrec] at this; exact this,(wpIn_wide (n:=0)).2 (hstop c pre x _ hxs (hIx _ _ _ _ hi wl) ((World.putObj_heap_other hDL).trans hk))⟩
end
theorem Sep.extra {w0 A B:World} {l:List Ob} {X:List Nat} (S:Sep w0 A l) (hx:Ext X A B) (hX:∀ k∈X,w0.heap.size≤k∧∀ o∈l,k∉o.F):Sep w0 B l:=
 ⟨S.ext.trans' hx (fun i hi hk=>absurd (hX i hk).1 (by omega)),fun o ho=>o.ok (S.each o ho) hx (fun k hk hkX=>(hX k hkX).2 o ho hk),S.base,S.apart⟩
def oVar (E T:TypeId) (k b:Nat) (F:List Nat) (n:Nat) (xs:List Value):Ob where
 F:=F
 P:=fun w=>∃ v,w.heap[b]? = some (.cells #[v] T (0,0))∧w.ownsRow 0 E k v n xs∧F=b::v.ownBlock.toList∧v.ownBlock≠some b
 ok:=fun h hx hS=>by
  obtain⟨v,h1,h2,h3,h4⟩:=h
  exact⟨v,hx.keep h1 (hS b (by rw [h3]; simp)),ownsRow_ext h2 hx (fun g hg=>hS g (by rw [h3]; simp [hg])),h3,h4⟩
 lt:=fun h q hq=>by
  obtain⟨v,h1,h2,h3,h4⟩:=h
  rw [h3] at hq
  rcases List.mem_cons.1 hq with rfl | hq
  ·exact lt_of_block h1
  ·exact (h2.lt q (by simpa using hq)).2
theorem Sep.var {w0 w w' : World} {E T:TypeId} {k n:Nat} {v:Value} {xs:List Value} {M:List Ob} (S:Sep w0 w (oSl E k v n xs::M)) (hx:Ext [] w w') {b:Nat} (hb:w'.heap[b]? = some (.cells #[v] T (0,0))) (hnew:w.heap.size≤b) :
  Sep w0 w' (oVar E T k b (b::v.ownBlock.toList) n xs::M):=by
 have h0:w.ownsRow 0 E k v n xs:=S.get 0 rfl
 have hne:v.ownBlock≠some b:=fun e=>by have:=(h0.lt b e).2; omega
 have S1:=S.quiet hx
 have hw:w.heap.size≤w'.heap.size:=hx.size
 refine⟨S1.ext,fun o ho=>?_,fun o ho q hq=>?_,fun i j x y hi hj hij q hq hq2=>?_⟩
 ·rcases List.mem_cons.1 ho with rfl | ho
  ·exact⟨v,hb,S1.get 0 rfl,rfl,hne⟩
  ·exact S1.each o (List.mem_cons_of_mem _ ho)
 ·rcases List.mem_cons.1 ho with rfl | ho
  ·rcases List.mem_cons.1 hq with rfl | hq
   ·exact Nat.le_trans S.ext.size hnew
   ·exact S1.base _ (List.mem_cons_self ..) q hq
  ·exact S1.base o (List.mem_cons_of_mem _ ho) q hq
 ·have old:∀ {m:Nat} {o:Ob},M[m]? = some o→∀ q∈o.F,q≠b:=fun {m o} hm q hq e=>by
   have h1:=o.lt (S.each o (List.mem_cons_of_mem _ (List.mem_of_getElem? hm))) q hq
   omega
  cases i with
  | zero=>
   cases j with
   | zero=>exact absurd rfl hij
   | succ j=>
    cases hi
    rcases List.mem_cons.1 hq with e | hq
    ·exact old hj q hq2 e
    ·exact S.apart 0 (j+1) _ _ rfl hj (by omega) q hq hq2
  | succ i=>
   cases j with
   | zero=>
    cases hj
    rcases List.mem_cons.1 hq2 with e | hq2
    ·exact old hi q hq e
    ·exact S.apart (i+1) 0 _ _ hi rfl (by omega) q hq hq2
   | succ j=>exact S.apart (i+1) (j+1) _ _ hi hj hij q hq hq2
def Chn {α:Type} (Nx:List α→α→Prop) (l:List α):Prop:=∀ a x b,l=a++x::b→Nx a x
theorem Chn.nil {α:Type} (Nx:List α→α→Prop):Chn Nx []:=fun a x b h=>by simp at h
theorem Chn.snoc {α:Type} {Nx:List α→α→Prop} {l:List α} {x:α} (h:Chn Nx l) (hx:Nx l x):Chn Nx (l++[x]):=fun a y b he=>by
 rcases List.eq_nil_or_concat b with rfl | ⟨b',z,rfl⟩
 ·have h1:=List.append_inj' (t₁:=[x]) (t₂:=[y]) he rfl
  obtain⟨rfl,h2⟩:=h1
  obtain rfl:x=y:=by simpa using h2
  exact hx
 ·have he2:l++[x]=(a++y::b')++[z]:=by rw [he]; simp
  have h1:=List.append_inj' he2 rfl
  exact h a y b' h1.1
theorem Sep.push {w0 W w1:World} {E T:TypeId} {k n m b g cap:Nat} {v:Value} {F:List Nat} {xs ys:List Value} {M:List Ob} {O:Obj} (S:Sep w0 W (oVar E T k b F n xs::M)) (hb:W.heap[b]? = some (.cells #[v] T (0,0))) (hF:F=b::v.ownBlock.toList) (hne:v.ownBlock≠some b)
  (hown:w1.ownsRow 0 E k (.slice (some ⟨g,0,none⟩) m cap) m ys) (hgrow:(W.alloc O).grownBy w1 v.ownBlock) (hat:v.ownBlock=some g∨g=W.heap.size+1) :
  Sep w0 (w1.setCell ⟨b,0,none⟩ (.slice (some ⟨g,0,none⟩) m cap)) (oVar E T k b [b,g] m ys::M)∧Ext F W (w1.setCell ⟨b,0,none⟩ (.slice (some ⟨g,0,none⟩) m cap))∧Fr W F [b,g]:=by
 subst hF
 obtain⟨p1,p2,p3,p4,p5⟩:=push_field hb hne hown hgrow hat 0
 refine⟨?_,p3,p5⟩
 exact S.upd 0 (oVar E T k b [b,g] m ys) rfl p3 p5 ⟨_,p1,p2,rfl,fun e=>p4 (by simpa [Value.ownBlock] using e)⟩
theorem Sep.unvar {w0 w:World} {E T:TypeId} {k n b:Nat} {v:Value} {F:List Nat} {xs:List Value} {M:List Ob} (S:Sep w0 w (oVar E T k b F n xs::M)) (hb:w.heap[b]? = some (.cells #[v] T (0,0))):Sep w0 w (oSl E k v n xs::M):=by
 have hF:v.ownBlock.toList ⊆ F∧w.ownsRow 0 E k v n xs:=by
  obtain⟨v',h1,h2,h3,h4⟩:=(S.get 0 rfl:(oVar E T k b F n xs).P w)
  rw [hb] at h1
  injection h1 with h1
  injection h1 with h1
  obtain rfl:v=v':=by simpa using h1
  exact⟨fun q hq=>by rw [h3]; exact List.mem_cons_of_mem _ hq,h2⟩
 refine⟨S.ext,fun o ho=>?_,fun o ho q hq=>?_,fun i j x y hi hj hij q hq hq2=>?_⟩
 ·rcases List.mem_cons.1 ho with rfl | ho
  ·exact hF.2
  ·exact S.each o (List.mem_cons_of_mem _ ho)
 ·rcases List.mem_cons.1 ho with rfl | ho
  ·exact S.base (oVar E T k b F n xs) (List.mem_cons_self ..) q (hF.1 hq)
  ·exact S.base o (List.mem_cons_of_mem _ ho) q hq
 ·cases i with
  | zero=>
   cases j with
   | zero=>exact absurd rfl hij
   | succ j=>cases hi; exact S.apart 0 (j+1) _ _ rfl hj (by omega) q (hF.1 hq) hq2
  | succ i=>
   cases j with
   | zero=>cases hj; exact S.apart (i+1) 0 _ _ hi rfl (by omega) q hq (hF.1 hq2)
   | succ j=>exact S.apart (i+1) (j+1) _ _ hi hj hij q hq hq2
namespace Mp
open Go.Maps
theorem RangeAt.same {κ:Type} {P:Program} {k:TypeId} {mk:κ→Value} {w w' : World} {b r n cnt:Nat} {f:κ→Option Value} {left:κ→Bool} (h:RangeAt P k mk w b r n f left cnt) (hb:w'.heap[b]? = w.heap[b]?) (hr:w'.heap[r]? = w.heap[r]?):RangeAt P k mk w' b r n f left cnt:=by
 obtain⟨D,L,⟨es,clock,since,seen,c0,h1,F,h2,h3,h4,h5⟩,hf⟩:=h
 exact⟨D,L,⟨es,clock,since,seen,c0,hb.trans h1,F,h2,h3,hr.trans h4,h5⟩,hf⟩
end Mp
end Go.Proofs.YtljachhmdogkdaaGreatDoor
