/-
 Texts RdA, as far as the statement needs them.
-/
import Derived.Test.YtljachhmdogkdaaGreatDoorQPkW
import Derived.Test.YtljachhmdogkdaaGreatDoorQPkMp
import Derived.DeepKeys4
import Derived.MapViews
import Derived.ChangeSame
import Derived.ChangeShapes
set_option maxRecDepth 100000
set_option maxHeartbeats 64000000
namespace Go.Proofs.YtljachhmdogkdaaGreatDoor
namespace Rc
open Go.RowKit
open Tr
structure Om where
 num:Int
 gen:Int
 tv:Value
 stream:Bool
 data:ByteArray
 tree:List Nd
abbrev omC (x:Om):List Value:=[.int .i64 x.num,.int .i64 x.gen,x.tv,.bool x.stream,.string x.data]
abbrev omV (x:Om):Value:=.agg #[.int .i64 x.num,.int .i64 x.gen,x.tv,.bool x.stream,.string x.data]
structure OmWf (x:Om):Prop where
 num : -9223372036854775808≤x.num∧x.num≤9223372036854775807
 gen : -9223372036854775808≤x.gen∧x.gen≤9223372036854775807
 lt:Lt x.tree
structure OmAt (w:World) (b o:Nat) (x:Om):Prop where
 num:w.cell? ⟨b,o,none⟩=some (.int .i64 x.num)
 gen:w.cell? ⟨b,o+1,none⟩=some (.int .i64 x.gen)
 tv:w.cell? ⟨b,o+2,none⟩=some x.tv
 stream:w.cell? ⟨b,o+3,none⟩=some (.bool x.stream)
 data:w.cell? ⟨b,o+4,none⟩=some (.string x.data)
 nodes:NodesAt w x.tv x.tree
def OmsIn (w:World) (base:Option Addr) (L:List Om):Prop:=∀ i (h:i<L.length),∃ b o,base=some ⟨b,o,none⟩∧OmAt w b (o+i*5) (L[i]'h)
def OmsAt (w:World) (v:Value) (L:List Om):Prop:=∃ base cap,v=.slice base L.length cap∧L.length≤cap∧OmsIn w base L
theorem OmAt.ext {w w' : World} {b o:Nat} {x:Om} (h:OmAt w b o x) (hx:Ext [] w w'):OmAt w' b o x:=⟨hx.cell h.num,hx.cell h.gen,hx.cell h.tv,hx.cell h.stream,hx.cell h.data,h.nodes.ext hx⟩
theorem OmsIn.ext {w w' : World} {base:Option Addr} {L:List Om} (h:OmsIn w base L) (hx:Ext [] w w'):OmsIn w' base L:=fun i hi=>by
 obtain⟨b,o,h1,h2⟩:=h i hi
 exact⟨b,o,h1,h2.ext hx⟩
theorem OmsAt.ext {w w' : World} {v:Value} {L:List Om} (h:OmsAt w v L) (hx:Ext [] w w'):OmsAt w' v L:=by
 obtain⟨base,cap,h1,h2,h3⟩:=h
 exact⟨base,cap,h1,h2,h3.ext hx⟩
theorem tree_slice {w:World} {v:Value} {l:List Nd} (h:NodesAt w v l):∃ base cap,v=.slice base l.length cap:=by
 obtain⟨base,cap,rfl,-,-⟩:=h
 exact⟨_,_,rfl⟩
def omsC (L:List Om):List Value:=L.flatMap omC
theorem omsC_append (a b:List Om):omsC (a++b)=omsC a++omsC b:=by unfold omsC; rw [List.flatMap_append]
theorem omsC_len:∀ L:List Om,(omsC L).length=L.length*5
 | []=>rfl
 | x::r=>by
  show (_::_::_::_::_::omsC r).length=_
  simp only [List.length_cons,omsC_len r]
  omega
theorem omsC_at:∀ (L:List Om) (i:Nat) (h:i<L.length),(omsC L)[i*5]? = some (.int .i64 (L[i]'h).num)∧(omsC L)[i*5+1]? = some (.int .i64 (L[i]'h).gen)∧(omsC L)[i*5+2]? = some (L[i]'h).tv∧(omsC L)[i*5+3]? = some (.bool (L[i]'h).stream)∧(omsC L)[i*5+4]? = some (.string (L[i]'h).data)
 | [],i,h=>by simp at h
 | p::L,i,h=>by
  have e:omsC (p::L)=.int .i64 p.num::.int .i64 p.gen::p.tv::.bool p.stream::.string p.data::omsC L:=rfl
  rw [e]
  cases i with
  | zero=>exact⟨rfl,rfl,rfl,rfl,rfl⟩
  | succ i=>
   rw [show (i+1)*5=i*5+5 by omega]
   exact omsC_at L i (by simpa using h)
abbrev Rf:=Int×Int
abbrev mkR (r:Rf):Value:=.agg #[.int .i64 r.1,.int .i64 r.2]
theorem mkR_inj:∀ x y:Rf,mkR x=mkR y→x=y:=fun x y h=>by
 simp only [mkR,Value.agg.injEq,Array.mk.injEq,List.cons.injEq,Value.int.injEq,true_and,and_true] at h
 exact Prod.ext h.1 h.2
def RfWf (r:Rf):Prop:=(-9223372036854775808≤r.1∧r.1≤9223372036854775807)∧-9223372036854775808≤r.2∧r.2≤9223372036854775807
theorem laidOutR:laidOutB Tryz.prog=true:=by kernel_rfl
theorem wideR:(match Tryz.prog.underlying 24 with | some (.array _ _) | some (.struct _)=>true | _=>false)=true:=by rw [Tryz.underlying24]
theorem rowR:(24:TypeId)<Tryz.prog.types.size:=of_decide_eq_true (by kernel_rfl)
theorem lawR:Maps.Keyed Tryz.prog 24:=Maps.Keyed.of_law (deep_law_laid laidOutR (m:=2) (by omega) rowR (by kernel_rfl) wideR)
theorem cellsR:Tryz.prog.cellsOf 24=2:=by kernel_rfl
theorem cellsI:Tryz.prog.cellsOf 3=1:=by kernel_rfl
theorem deepR:Tryz.prog.keyTypeAt (Tryz.prog.types.size+1) 24=true:=by kernel_rfl
theorem formedR {c0 c1:Value}:(Value.agg #[c0,c1]).formed Tryz.prog 24=true:=by simp [Value.formed,Tryz.underlying24,cellsR]
theorem wf_lit {n:Int} (h : -9223372036854775808≤n∧n≤9223372036854775807):(Lit.int .i64 n).wf=true:=by
 simp [Lit.wf,IntKind.min,IntKind.max,IntKind.signed,IntKind.bits]; omega
theorem trodR (w:World) (r:Rf) (h:RfWf r):∃ d:DataW Value,DataW.Trod (fun p=>p.2) Tryz.prog w 0 (fun _=>true) true 24 (mkR r) d []:=by
 have t0:DataW.trod (H:=Value) (fun p=>p.2) Tryz.prog w 0 (fun _=>true) true 1 3 [.int .i64 r.1]=some (.lit (.int .i64 r.1),[]):=Go.ChangeShapes.trod_int_mk 0 Tryz.underlying3 (wf_lit h.1)
 have t1:DataW.trod (H:=Value) (fun p=>p.2) Tryz.prog w 0 (fun _=>true) true 1 3 [.int .i64 r.2]=some (.lit (.int .i64 r.2),[]):=Go.ChangeShapes.trod_int_mk 0 Tryz.underlying3 (wf_lit h.2)
 exact⟨_,2,Go.ChangeShapes.trod_struct2_mk Tryz.underlying24 (cs:=[.int .i64 r.1,.int .i64 r.2]) (by rw [cellsR]; rfl) (by simpa [cellsI] using t0) (by simpa [cellsI] using t1)⟩
theorem keyR {r:Rf} (h:RfWf r):∃ kl,keyOf Tryz.prog 24 (mkR r)=some kl:=by
 obtain⟨d,hd⟩:=trodR default r h
 obtain⟨hk,-⟩:=keyOf_asKey deepR wideR formedR hd
 exact⟨_,hk⟩
theorem litI {d:Nat} {cs:List Value} {L:List Lit} (h:Tryz.prog.keyLits (d+1) 3 cs=some L):∃ n,cs=[.int .i64 n]:=by
 unfold Program.keyLits at h
 rw [Tryz.underlying3] at h
 split at h
 ·rename_i heq; cases heq
 ·rename_i q q' n heq
  cases heq
  split at h
  ·rename_i hc
   obtain⟨rfl,-⟩:=hc
   exact⟨_,rfl⟩
  ·cases h
 ·rename_i heq; cases heq
 ·rename_i heq; cases heq
 ·rename_i heq; cases heq
 ·cases h
theorem invR (key:Value) (kl:Lit) (h:keyOf Tryz.prog 24 key=some kl):∃ r:Rf,key=mkR r:=by
 obtain⟨xs,L,rfl,h1,-⟩:=keyOf_top wideR h
 obtain⟨d,hd⟩:∃ d,Tryz.prog.types.size=d+1:=⟨Tryz.prog.types.size - 1,by have:0<Tryz.prog.types.size:=Nat.lt_of_le_of_lt (Nat.zero_le _) rowR; omega⟩
 rw [hd] at h1
 unfold Program.keyLits at h1
 rw [Tryz.underlying24] at h1
 simp only [cellsR] at h1
 split at h1
 ·rename_i hc
  obtain⟨cs,hcs⟩:∃ cs,xs.toList=cs:=⟨_,rfl⟩
  rw [hcs] at h1 hc
  obtain⟨hl,-⟩:=hc
  match cs,hl with
  | [c0,c1],_=>
   simp only [List.mapM_cons,List.mapM_nil,cellsI,List.drop_zero,List.drop_succ_cons,List.take_succ_cons,List.take_zero,Option.map_eq_some_iff] at h1
   obtain⟨a,ha,-⟩:=h1
   simp only [Option.bind_eq_bind,Option.bind_eq_some_iff] at ha
   obtain⟨l0,h0,l1,⟨x1,h2,-⟩,-⟩:=ha
   obtain⟨n0,e0⟩:=litI h0
   obtain⟨n1,e1⟩:=litI h2
   cases e0
   cases e1
   have:xs=#[.int .i64 n0,.int .i64 n1]:=by rw [←Array.toList_inj]; exact hcs
   exact⟨(n0,n1),by rw [this]⟩
 ·cases h1
theorem zeroObj (w:World):(zeroValue 35).run Tryz.prog w=.ok (.agg #[.int .i64 0,.int .i64 0,.slice none 0 0,.bool false,.string ⟨#[]⟩]) w:=by kernel_rfl
theorem zeroBoolR (w:World):(zeroValue 4).run Tryz.prog w=.ok (.bool false) w:=by kernel_rfl
def isR (r:Rf) (x:Om):Bool:=decide (x.num=r.1)&&decide (x.gen=r.2)
def idxB (p:Om→Bool):List Om→Nat→Int
 | [],_=>-1
 | x::L,i=>if p x=true then (i:Int) else idxB p L (i+1)
theorem idxB_find (p:Om→Bool):∀ (L:List Om) (i:Nat),(idxB p L i = -1∧L.find? p=none)∨∃ k:Nat,∃ h:k<L.length,idxB p L i=((i+k:Nat):Int)∧L.find? p=some (L[k]'h)
 | [],i=>.inl ⟨rfl,rfl⟩
 | x::L,i=>by
  rw [idxB,List.find?_cons]
  cases hp:p x with
  | true=>exact .inr ⟨0,by simp,by simp,rfl⟩
  | false=>
   rcases idxB_find p L (i+1) with ⟨h1,h2⟩ | ⟨k,hk,h1,h2⟩
   ·exact .inl ⟨by simpa using h1,h2⟩
   ·exact .inr ⟨k+1,by simpa using hk,by simp [h1]; omega,h2⟩
def findO (L:List Om) (r:Rf):Option Om:=L.find? (isR r)
abbrev zeroV:Value:=.agg #[.int .i64 0,.int .i64 0,.slice none 0 0,.bool false,.string ⟨#[]⟩]
def omVo:Option Om→Value
 | none=>zeroV
 | some x=>omV x
theorem find1_walk (x:Om) (r:Rf) (q:Nat) (w:World) (hq:w.cell? ⟨q,0,none⟩=some (.int .i64 r.1)) (hq1:w.cell? ⟨q,1,none⟩=some (.int .i64 r.2)) (hs:∃ b n c,x.tv=.slice b n c) :
  Calls Tryz.prog 127 #[omV x,.pointer (some ⟨q,0,none⟩)] w fun e w'=>e=.returned (.bool (isR r x))∧Ext [] w w':=by
 obtain⟨num,gen,tv,st,dt,tr⟩:=x
 obtain⟨r1,r2⟩:=r
 obtain⟨tb,tn,tc,rfl⟩:∃ b n c,tv=.slice b n c:=hs
 have g0:=((Ext.refl [] w).alloc (.cells #[.int .i64 num,.int .i64 gen,.slice tb tn tc,.bool st,.string dt] 35)).cell hq
 have g1:=((Ext.refl [] w).alloc (.cells #[.int .i64 num,.int .i64 gen,.slice tb tn tc,.bool st,.string dt] 35)).cell hq1
 dsimp only at g0 g1
 clear hq hq1
 by_cases h1:num=r1
 ·subst h1
  by_cases h2:gen=r2
  ·subst h2
   have hR:isR (num,gen) ⟨num,gen,.slice tb tn tc,st,dt,tr⟩=true:=by simp [isR]
   rw [hR]
   clear hR
   go_enter Tryz.func127,Tryz.ntmps127
   go_wp2_with fail
   go_ret
   exact⟨rfl,(Ext.refl [] w).alloc _⟩
  ·have hR:isR (num,r2) ⟨num,gen,.slice tb tn tc,st,dt,tr⟩=false:=by simp [isR,h2]
   have hz:(gen==r2)=false:=beq_eq_false_iff_ne.2 h2
   rw [hR]
   clear hR h2
   go_enter Tryz.func127,Tryz.ntmps127
   go_wp2_with fail
   go_ret
   exact⟨rfl,(Ext.refl [] w).alloc _⟩
 ·have hR:isR (r1,r2) ⟨num,gen,.slice tb tn tc,st,dt,tr⟩=false:=by simp [isR,h1]
  have hz:(num==r1)=false:=beq_eq_false_iff_ne.2 h1
  rw [hR]
  clear hR h1
  go_enter Tryz.func127,Tryz.ntmps127
  go_wp2_with fail
  go_ret
  exact⟨rfl,(Ext.refl [] w).alloc _⟩
theorem idxO_walk (v:Value) (L:List Om) (r:Rf) (q:Nat) (w:World) (h:OmsAt w v L) (hq:w.cell? ⟨q,0,none⟩=some (.int .i64 r.1)) (hq1:w.cell? ⟨q,1,none⟩=some (.int .i64 r.2)) (hl:L.length≤9223372036854775807) :
  Calls Tryz.prog 126 #[v,.func (.func 127) #[] #[.pointer (some ⟨q,0,none⟩)]] w fun e w'=>e=.returned (.int .i64 (idxB (isR r) L 0))∧Ext [] w w':=by
 obtain⟨base,cap,rfl,-,hT⟩:=h
 obtain⟨n,hln⟩:∃ n,L.length=n:=⟨_,rfl⟩
 obtain⟨R,hR⟩:∃ R,idxB (isR r) L 0=R:=⟨_,rfl⟩
 have HH:=zz5 ⟨hT,hln,hR,hq,hq1⟩
 rw [hR]
 rw [hln] at hl ⊢
 clear hT hln hR hq hq1
 go_enter Tryz.func126,Tryz.ntmps126
 go_wp2_with fail
 go_loopg [4,5,8] n (fun g v4 v5 iv wr=>∃ i:Nat,g+i=n∧iv=.int .i64 i∧idxB (isR r) (L.drop i) i=R∧Ext [] w wr)
 case atStart=>exact⟨0,by omega,rfl,HH.out.2.2.1,Ext.refl _ _⟩
 case round=>
  obtain⟨i,hgi,rfl,hR,hx⟩:=hrel
  by_cases hlt:i<n
  ·obtain⟨g,rfl⟩:∃ g,gk=g+1:=⟨gk - 1,by omega⟩
   have hltz:(i:Int)<(n:Int):=by omega
   have hil:i<L.length:=by rw [HH.out.2.1]; exact hlt
   rw [drop_at L i hil,idxB] at hR
   obtain⟨b,o,rfl,n1,n2,n3,n4,n5,hN⟩:=HH.out.1.ext hx i hil
   generalize L[i]'hil=x at *
   obtain⟨tb,tc,htv⟩:=tree_slice hN
   have H:=zz (find1_walk x r q wr (hx.cell HH.out.2.2.2.1) (hx.cell HH.out.2.2.2.2) ⟨_,_,_,htv⟩)
   have HX:=zz2 ⟨hx,hR⟩
   obtain⟨num,gen,tv,st,dt,tr⟩:=x
   have htv:tv=.slice tb tr.length tc:=htv
   subst htv
   clear hx hR hN
   obtain⟨bb,hb⟩:∃ bb,isR r ⟨num,gen,.slice tb tr.length tc,st,dt,tr⟩=bb:=⟨_,rfl⟩
   rw [hb] at H HX
   dsimp only at n1 n2 n3 n4 n5
   clear hb
   obtain⟨tn,htn⟩:∃ tn,tr.length=tn:=⟨_,rfl⟩
   rw [htn] at H n3
   clear htn
   cases bb with
   | false=>
    go_wp2_with fail
    refine H.out.mono ?_
    rintro ee w2 ⟨rfl,hx2⟩
    have HX2:=zz (HX.out.1.trans hx2)
    clear hx2 H n1 n2 n3 n4 n5
    go_wp2_with fail
    go_roundg g
    case measure=>omega
    case rel=>exact⟨i+1,by omega,by go_num,by simpa using HX.out.2,HX2.out⟩
   | true=>
    have hRi:R=(i:Int):=by have:=HX.out.2; rw [if_pos rfl] at this; exact this.symm
    subst hRi
    go_wp2_with fail
    refine H.out.mono ?_
    rintro ee w2 ⟨rfl,hx2⟩
    have HX2:=zz (HX.out.1.trans hx2)
    clear hx2 H n1 n2 n3 n4 n5
    go_wp2_with fail
    go_ret
    exact⟨rfl,HX2.out⟩
  ·obtain rfl:gk=0:=by omega
   have hR0:R = -1:=by rw [←hR,List.drop_eq_nil_of_le (by rw [HH.out.2.1]; omega)]; rfl
   subst hR0
   have HX:=zz hx
   clear hx hR
   go_wp2_with fail
   go_ret
   exact⟨rfl,HX.out⟩
theorem isR_self (x:Om):isR (x.num,x.gen) x=true:=by simp [isR]
theorem isR_eq {r:Rf} {x:Om} (h:isR r x=true):r=(x.num,x.gen):=by
 simp [isR] at h
 exact Prod.ext h.1.symm h.2.symm
theorem findO_snoc (L:List Om) (x:Om) (r:Rf):findO (L++[x]) r=(findO L r).or (if isR r x then some x else none):=by
 unfold findO
 rw [List.find?_append,List.find?_cons]
 cases isR r x <;> rfl
theorem findO_mem {L:List Om} {r:Rf} {x:Om} (h:findO L r=some x):x∈L∧r=(x.num,x.gen):=⟨List.mem_of_find?_eq_some h,isR_eq (List.find?_some h)⟩
def idxF (L:List Om):Rf→Option Value:=fun r=>(findO L r).map omV
theorem idxF_new {L:List Om} {x:Om} (h:findO L (x.num,x.gen)=none):(fun q=>if q=(x.num,x.gen) then some (omV x) else idxF L q)=idxF (L++[x]):=by
 funext q
 unfold idxF
 by_cases hq:q=(x.num,x.gen)
 ·subst hq
  rw [if_pos rfl,findO_snoc,h,isR_self]
  rfl
 ·rw [if_neg hq,findO_snoc]
  have:isR q x=false:=by
   cases hb:isR q x with
   | false=>rfl
   | true=>exact absurd (isR_eq hb) hq
  rw [this]
  simp
theorem idxF_old {L:List Om} {x y:Om} (h:findO L (x.num,x.gen)=some y):idxF (L++[x])=idxF L:=by
 funext q
 unfold idxF
 rw [findO_snoc]
 by_cases hq:q=(x.num,x.gen)
 ·subst hq
  rw [h]; rfl
 ·have:isR q x=false:=by
   cases hb:isR q x with
   | false=>rfl
   | true=>exact absurd (isR_eq hb) hq
  rw [this]
  simp
theorem idx_made (w:World):Mp.MapAt Tryz.prog 24 mkR (w.alloc (.map #[] 0)) w.heap.size 0 (idxF []):=Mp.MapAt.made w Tryz.prog 24 mkR
theorem lt_wf {x:Om} (h:OmWf x):RfWf (x.num,x.gen):=⟨h.num,h.gen⟩
theorem oms_tv {w:World} {base:Option Addr} {L:List Om} (h:OmsIn w base L) {x:Om} (hx:x∈L):∃ b c,x.tv=.slice b x.tree.length c:=by
 obtain⟨i,hi,rfl⟩:=List.getElem_of_mem hx
 obtain⟨b,o,-,h1⟩:=h i hi
 exact tree_slice h1.nodes
theorem index_walk (v:Value) (L:List Om) (m0 m1:Int) (w:World) (h:OmsAt w v L) (hw:∀ x∈L,OmWf x) (hl:L.length≤100000) :
  Calls Tryz.prog 87 #[.agg #[v,.int .i64 m0,.int .i64 m1]] w fun e w'=>∃ b,e=.returned (.map (some b))∧Sep w w' [Mp.oMp Tryz.prog 24 mkR b L.length (idxF L)]:=by
 have hmm:=@run_makeMap Tryz.prog
 obtain⟨base,cap,rfl,-,hT⟩:=h
 obtain⟨n,hln⟩:∃ n,L.length=n:=⟨_,rfl⟩
 have HH:=zz3 ⟨hT,hln,hw⟩
 rw [hln] at hl ⊢
 clear hT hln hw
 go_enter Tryz.func87,Tryz.ntmps87
 go_wp2_with fail
 have S:=(Sep.start w).new (((Ext.refl [] w).alloc (.cells #[.slice base n cap,.int .i64 m0,.int .i64 m1] 26)).alloc (.map #[] 0)) (Mp.oMp Tryz.prog 24 mkR (w.alloc (.cells #[.slice base n cap,.int .i64 m0,.int .i64 m1] 26)).heap.size 0 (idxF [])) (idx_made _) (fun k hk=>by simp [Mp.oMp] at hk; omega)
 rw [show (w.alloc (.cells #[.slice base n cap,.int .i64 m0,.int .i64 m1] 26)).heap.size=w.heap.size+1 from by simp] at S
 obtain⟨mb,hmb⟩:∃ mb,w.heap.size+1=mb:=⟨_,rfl⟩
 rw [hmb] at S ⊢
 have HS:=zz S
 clear S hmb hmm
 go_loopg [5,6,7,8,13] n (fun g v5 v6 v7 v8 iv wr=>∃ i:Nat,g+i=n∧iv=.int .i64 i∧Sep w wr [Mp.oMp Tryz.prog 24 mkR mb i (idxF (L.take i))])
 case atStart=>exact⟨0,by omega,rfl,HS.out⟩
 case round=>
  clear HS
  obtain⟨i,hgi,rfl,S⟩:=hrel
  by_cases hlt:i<n
  case neg=>
   obtain rfl:gk=0:=by omega
   have hin:i=n:=by omega
   subst hin
   rw [List.take_of_length_le (by rw [HH.out.2.1]; omega)] at S
   have HF:=zz S
   clear S
   go_wp2_with fail
   go_ret
   exact⟨_,rfl,HF.out⟩
  case pos=>
  obtain⟨g,rfl⟩:∃ g,gk=g+1:=⟨gk - 1,by omega⟩
  have hltz:(i:Int)<(n:Int):=by omega
  have hil:i<L.length:=by rw [HH.out.2.1]; exact hlt
  obtain⟨b,o,rfl,n1,n2,n3,n4,n5,hN⟩:=HH.out.1.ext S.ext i hil
  have hwx:=HH.out.2.2 _ (List.getElem_mem hil)
  have htk:L.take (i+1)=L.take i++[L[i]'hil]:=by rw [List.take_succ_eq_append_getElem hil]
  generalize L[i]'hil=x at *
  obtain⟨tb,tc,htv⟩:=tree_slice hN
  have HWf:=zz (lt_wf hwx)
  have HTk:=zz htk
  obtain⟨num,gen,tv,st,dt,tr⟩:=x
  have htv:tv=.slice tb tr.length tc:=htv
  subst htv
  obtain⟨tn,htn⟩:∃ tn,tr.length=tn:=⟨_,rfl⟩
  rw [htn] at n3 HTk
  dsimp only at n1 n2 n3 n4 n5 HWf
  have HSS:=zz S
  clear S hN hwx htk htn
  go_upto_region 6 with (fail)
  obtain⟨W,hW⟩:∃ W,(wr.alloc (Obj.cells #[.int .i64 num,.int .i64 gen,.slice tb tn tc,.bool st,.string dt] 35)).alloc (Obj.cells #[.int .i64 num,.int .i64 gen] 24)=W:=⟨_,rfl⟩
  rw [hW]
  have hxW:Ext [] wr W:=by rw [←hW]; exact ((Ext.refl [] wr).alloc _).alloc _
  have hbA:W.heap[wr.heap.size]? = some (.cells #[.int .i64 num,.int .i64 gen,.slice tb tn tc,.bool st,.string dt] 35 (0,0)):=by rw [←hW]; exact heap_alloc_old _ (heap_alloc_at _)
  have hbB:W.heap[wr.heap.size+1]? = some (.cells #[.int .i64 num,.int .i64 gen] 24 (0,0)):=by
   have:=heap_alloc_at (w:=wr.alloc (Obj.cells #[.int .i64 num,.int .i64 gen,.slice tb tn tc,.bool st,.string dt] 35)) (.cells #[.int .i64 num,.int .i64 gen] 24)
   rw [hW,show (wr.alloc (Obj.cells #[.int .i64 num,.int .i64 gen,.slice tb tn tc,.bool st,.string dt] 35)).heap.size=wr.heap.size+1 from by simp] at this
   exact this
  obtain⟨p,hp⟩:∃ p,wr.heap.size=p:=⟨_,rfl⟩
  obtain⟨p1,hp1⟩:∃ p1,p+1=p1:=⟨_,rfl⟩
  rw [hp] at hbA hbB ⊢
  rw [hp1] at hbB ⊢
  have HW:=zz3 ⟨HSS.out.quiet hxW,hbA,hbB⟩
  obtain⟨kl,hkl⟩:=keyR HWf.out
  have hM:Mp.MapAt Tryz.prog 24 mkR W mb i (idxF (L.take i)):=HW.out.1.get 0 rfl
  have hlook:=hM.look_ok lawR Tryz.underlying60 (zeroObj W) (x:=(num,gen)) hkl
  have k0:=cellOf hbB 0
  have k1:=cellOf hbB 1
  have HKL:=zz2 ⟨hkl,hM⟩
  clear hW hxW hbA hbB hp hp1 HSS n1 n2 n3 n4 n5 hkl hM
  cases hf:findO (L.take i) (num,gen) with
  | none=>
   rw [show idxF (L.take i) (num,gen)=none by unfold idxF; rw [hf]; rfl,Option.getD_none,Option.isSome_none] at hlook
   have HF:=zz hf
   clear hf
   go_upto_region 8 with (fail)
   clear hlook k0 k1
   have HM3:=zz (HKL.out.2.ext ((Ext.refl [] W).alloc (.cells #[.int .i64 0,.int .i64 0,.slice none 0 0,.bool false,.string ⟨#[]⟩] 35)) (by simp))
   have S3:=HW.out.1.quiet ((Ext.refl [] W).alloc (.cells #[.int .i64 0,.int .i64 0,.slice none 0 0,.bool false,.string ⟨#[]⟩] 35))
   have hbA:=heap_alloc_old (.cells #[.int .i64 0,.int .i64 0,.slice none 0 0,.bool false,.string ⟨#[]⟩] 35) HW.out.2.1
   have hbB:=heap_alloc_old (.cells #[.int .i64 0,.int .i64 0,.slice none 0 0,.bool false,.string ⟨#[]⟩] 35) HW.out.2.2
   obtain⟨W3,hW3⟩:∃ W3,W.alloc (Obj.cells #[.int .i64 0,.int .i64 0,.slice none 0 0,.bool false,.string ⟨#[]⟩] 35)=W3:=⟨_,rfl⟩
   rw [hW3] at HM3 S3 hbA hbB ⊢
   have k0:=cellOf hbB 0
   have k1:=cellOf hbB 1
   have j0:=cellOf hbA 0
   have j1:=cellOf hbA 1
   have j2:=cellOf hbA 2
   have j3:=cellOf hbA 3
   have j4:=cellOf hbA 4
   have HS3:=zz S3
   clear S3 hW3 hbA hbB
   go_wp2_with (first | (at_mapUpdate; refine Mp.wpList_store_mp rfl _ _ _ 60 rfl 35 lawR mkR_inj Tryz.underlying60 rfl HM3.out (by unfold maxLen; omega) (num,gen) (omV ⟨num,gen,.slice tb tn tc,st,dt,tr⟩) kl rfl rfl HKL.out.1 ?_; intro w5 hm5 hx5))
   rw [idxF_new (x:=⟨num,gen,.slice tb tn tc,st,dt,tr⟩) HF.out,←HTk.out] at hm5
   have S5:=HS3.out.upd 0 (Mp.oMp Tryz.prog 24 mkR mb (i+1) (idxF (L.take (i+1)))) rfl hx5 (Fr.refl _ _) hm5
   have HS5:=zz S5
   clear S5 hm5 hx5 k0 k1 j0 j1 j2 j3 j4
   go_wp2_with fail
   go_roundg g
   case measure=>omega
   case rel=>exact⟨i+1,by omega,by go_num,HS5.out⟩
  | some y=>
   obtain⟨yb,yc,hyv⟩:=oms_tv HH.out.1 (List.mem_of_mem_take (findO_mem hf).1)
   have hold:=idxF_old (x:=⟨num,gen,.slice tb tn tc,st,dt,tr⟩) hf
   rw [←HTk.out] at hold
   have HO:=zz hold
   rw [show idxF (L.take i) (num,gen)=some (omV y) by unfold idxF; rw [hf]; rfl,Option.getD_some,Option.isSome_some] at hlook
   obtain⟨ynum,ygen,ytv,yst,ydt,ytr⟩:=y
   have hyv:ytv=.slice yb ytr.length yc:=hyv
   subst hyv
   obtain⟨yn,hyn⟩:∃ yn,ytr.length=yn:=⟨_,rfl⟩
   rw [hyn] at hlook
   clear hf hold hyn
   go_wp2_with fail
   have HM3:=HKL.out.2.ext ((Ext.refl [] W).alloc (.cells #[.int .i64 ynum,.int .i64 ygen,.slice yb yn yc,.bool yst,.string ydt] 35)) (by simp)
   have S3:=HW.out.1.quiet ((Ext.refl [] W).alloc (.cells #[.int .i64 ynum,.int .i64 ygen,.slice yb yn yc,.bool yst,.string ydt] 35))
   have S5:=S3.upd 0 (Mp.oMp Tryz.prog 24 mkR mb (i+1) (idxF (L.take (i+1)))) rfl (Ext.refl _ _) (Fr.refl _ _) (by rw [HO.out]; exact HM3.mono (by omega))
   have HS5:=zz S5
   clear S5 S3 HM3 hlook k0 k1
   go_roundg g
   case measure=>omega
   case rel=>exact⟨i+1,by omega,by go_num,HS5.out⟩
theorem refsS_walk (v:Value) (l:List Nd) (w:World) (h:NodesAt w v l) (hl:Lt l) :
  Calls Tryz.prog 88 #[v] w fun e w'=>∃ v2,e=.returned v2∧Sep w w' [oSl 24 2 v2 (refsN l).length (rfC (refsN l))]:=by
 obtain⟨i0,hif,hz0,hz1,hz2⟩:=info_parts infoRef17
 have HC:=zz (check_walk v l w h hl.len hl.s)
 obtain⟨c,hc⟩:∃ c,checkN l=c:=⟨_,rfl⟩
 rw [hc] at HC
 by_cases c0:c=0
 case neg=>
  have hR:refsN l=[]:=by rw [refsN,hc,if_neg c0]
  rw [hR]
  obtain⟨base,cap,rfl,-,-⟩:=h
  have hcb:(c != 0)=true:=bne_iff_ne.2 c0
  clear hR hc
  go_enter Tryz.func88,Tryz.ntmps88
  go_wp2_with fail
  refine HC.out.mono ?_
  rintro e w1 ⟨rfl,hx⟩
  have HX:=zz hx
  clear hx HC
  go_wp2_with fail
  go_ret
  exact⟨_,rfl,((Sep.start w).quiet HX.out).new (Ext.refl _ _) (oSl 24 2 (.slice none 0 0) 0 []) (World.ownsRow_nil _ _ _ _) (fun q hq=>by simp [oSl,Value.ownBlock] at hq)⟩
 case pos=>
 subst c0
 obtain⟨h0,hn,-⟩:=check_zero hc
 obtain⟨R,hR⟩:∃ R,refsN l=R:=⟨_,rfl⟩
 rw [hR]
 rw [refsN,if_pos hc] at hR
 obtain⟨base,cap,rfl,-,hN⟩:=h
 obtain⟨n,hln⟩:∃ n,l.length=n:=⟨_,rfl⟩
 have HH:=zz3 ⟨hN,hR,hln⟩
 rw [hln] at HC hn ⊢
 clear hN hR hln hc h0
 go_enter Tryz.func88,Tryz.ntmps88
 go_wp2_with fail
 refine HC.out.mono ?_
 rintro e w1 ⟨rfl,hx⟩
 have S:=((Sep.start w).quiet hx).new (Ext.refl _ _) (oSl 24 2 (.slice none 0 0) 0 []) (World.ownsRow_nil _ _ _ _) (fun q hq=>by simp [oSl,Value.ownBlock] at hq)
 have HS:=zz S
 clear hx HC S
 go_wp2_with fail
 go_loopg [3,5,11] n (fun g ov v5 iv wr=>∃ (i:Nat) (A:List (Int×Int)),g+i=n∧iv=.int .i64 i∧A.length≤i∧A++((l.drop i).filter fun x=>decide (x.kind=9)).map (fun x=>(x.n,x.gen))=R∧Sep w wr [oSl 24 2 ov A.length (rfC A)])
 case atStart=>exact⟨0,[],by omega,rfl,by simp,HH.out.2.1,HS.out⟩
 case round=>
  clear HS
  obtain⟨i,A,hgi,rfl,hA,hR,S⟩:=hrel
  have hr0:wr.ownsRow 0 24 2 u3 A.length (rfC A):=S.get 0 rfl
  obtain⟨ao3,c3,rfl⟩:=row_slice hr0
  obtain⟨m,hm⟩:∃ m,A.length=m:=⟨_,rfl⟩
  by_cases hlt:i<n
  ·obtain⟨g,rfl⟩:∃ g,gk=g+1:=⟨gk - 1,by omega⟩
   have hltz:(i:Int)<(n:Int):=by omega
   have hil:i<l.length:=by rw [HH.out.2.2]; exact hlt
   rw [drop_at l i hil,List.filter_cons] at hR
   obtain⟨b,o,rfl,n1,n2,n3,n4,nw,bk,ck,n5,-⟩:=HH.out.1.ext S.ext i hil
   generalize l[i]'hil=x at *
   rw [hm] at hr0 hA ⊢
   have HX:=zz4 ⟨S,hR,hr0,hm⟩
   clear S hR hr0 hm nw
   by_cases k9:x.kind=9
   ·have hR:=HX.out.2.1
    rw [if_pos (by simpa using k9),List.map_cons] at hR
    have HR:=zz hR
    have k9b:(x.kind==9)=true:=by rw [k9]; rfl
    clear hR k9
    go_wp2_with (first | (at_builtin; refine wpList_append_lies _ rfl _ _ 36 rfl 0 24 i0 _ 2 16 Tryz.underlying36 hif hz0 hz1 hz2 rfl (by decide) (.slice ao3 m c3) m _ rfl (World.ownsRow.alloc (World.ownsRow.alloc HX.out.2.2.1 _) _) ⟨wr.heap.size+1,0,none⟩ 1 1 [.int .i64 x.n,.int .i64 x.gen] rfl rfl (by have:=cells_two9 (wr.alloc (.cells #[.int .i64 x.kind,.int .i64 x.n,.int .i64 x.gen,.string x.s,.slice bk x.kids.length ck] 41)) (.int .i64 x.n) (.int .i64 x.gen) 24; rw [show (wr.alloc (.cells #[.int .i64 x.kind,.int .i64 x.n,.int .i64 x.gen,.string x.s,.slice bk x.kids.length ck] 41)).heap.size=wr.heap.size+1 by simp] at this; exact this) (by simp [Value.oneCell']) (by decide) (by unfold maxLen; omega) (by omega) (by omega) (wr.heap.size+2) (by simp) ?_; intro g6 cap2 w6 hown1 hgrow hat6 hlt6))
    have Pl:=push_local (w:=wr.alloc (.cells #[.int .i64 x.kind,.int .i64 x.n,.int .i64 x.gen,.string x.s,.slice bk x.kids.length ck] 41)) (cap:=cap2) (n:=m+1) hgrow (by rcases hat6 with q1 | q1; exact .inl q1; exact .inr (by simp; omega))
    have S2:=HX.out.1.quiet ((Ext.refl [] wr).alloc (.cells #[.int .i64 x.kind,.int .i64 x.n,.int .i64 x.gen,.string x.s,.slice bk x.kids.length ck] 41))
    go_roundg g
    case measure=>omega
    case rel=>
     have hl1:(A++[(x.n,x.gen)]).length=m+1:=by rw [List.length_append,HX.out.2.2.2]; rfl
     refine⟨i+1,A++[(x.n,x.gen)],by omega,by go_num,by omega,by rw [List.append_assoc]; exact HR.out,S2.upd 0 (oSl 24 2 (.slice (some ⟨g6,0,none⟩) (m+1) cap2) (A++[(x.n,x.gen)]).length (rfC (A++[(x.n,x.gen)]))) rfl (by rw [HX.out.2.2.2]; exact Pl.1) (by rw [HX.out.2.2.2]; exact Pl.2) ?_⟩
     show World.ownsRow _ 0 24 2 _ _ _
     rw [hl1,rfC_append]
     exact hown1
   ·have hR:=HX.out.2.1
    rw [if_neg (by simpa using k9)] at hR
    have HR:=zz hR
    have k9b:(x.kind==9)=false:=beq_eq_false_iff_ne.2 k9
    clear hR k9
    go_wp2_with fail
    go_roundg g
    case measure=>omega
    case rel=>exact⟨i+1,A,by omega,by go_num,by rw [HX.out.2.2.2]; omega,HR.out,by have:=HX.out.1.quiet ((Ext.refl [] wr).alloc (.cells #[.int .i64 x.kind,.int .i64 x.n,.int .i64 x.gen,.string x.s,.slice bk x.kids.length ck] 41)); rw [HX.out.2.2.2] at this ⊢; exact this⟩
  ·obtain rfl:gk=0:=by omega
   have hRA:A=R:=by rw [←hR,List.drop_eq_nil_of_le (by rw [HH.out.2.2]; omega)]; simp
   subst hRA
   have HX:=zz S
   clear hR S hr0 hA hm
   go_wp2_with fail
   go_ret
   exact⟨_,rfl,HX.out⟩
theorem refs_ok {l:List Nd} {r:Rf} (h:r∈refsN l):(1≤r.1∧r.1≤8388607)∧0≤r.2∧r.2≤65535:=by
 unfold refsN at h
 split at h
 ·rename_i hc
  obtain⟨x,hx,rfl⟩:=List.mem_map.1 h
  obtain⟨hx1,hk⟩:=List.mem_filter.1 hx
  have hk:=of_decide_eq_true hk
  obtain⟨-,-,E,D,hs,hm,hall⟩:=check_zero hc
  have hb:=List.all_eq_true.1 hall x hx1
  rw [nodeOk,Bool.and_eq_true] at hb
  have hb:=hb.1
  unfold bareN at hb
  rw [hk] at hb
  split at hb
  ·cases hb
  ·simp at hb
   obtain⟨h1,h2,h3,h4⟩:=hb
   exact⟨⟨h1,h2⟩,h3,h4⟩
 ·cases h
theorem refs_len (l:List Nd):(refsN l).length≤65536:=by
 unfold refsN
 split
 ·rename_i hc
  have h1:=(check_zero hc).2.1
  have:=List.length_filter_le (fun x:Nd=>decide (x.kind=9)) l
  rw [List.length_map]
  omega
 ·simp
theorem refs_wf {l:List Nd} {r:Rf} (h:r∈refsN l):RfWf r:=by
 have:=refs_ok h
 exact⟨⟨by omega,by omega⟩,by omega,by omega⟩
def refsOf (x:Om):List Rf:=refsN x.tree
def refsL (root:Rf) (L:List Om):List Rf:=root::L.flatMap refsOf
theorem refsL_snoc (root:Rf) (L:List Om) (x:Om):refsL root (L++[x])=refsL root L++refsN x.tree:=by
 unfold refsL
 rw [List.flatMap_append]
 simp [refsOf]
def setF (l:List Rf):Rf→Option Value:=fun r=>if r∈l then some (.bool true) else none
theorem setF_more (l:List Rf) (x:Rf):(fun q=>if q=x then some (Value.bool true) else setF l q)=setF (l++[x]):=by
 funext q
 unfold setF
 by_cases h:q=x
 ·simp [h]
 ·simp [h]
theorem set_made (w:World):Mp.MapAt Tryz.prog 24 mkR (w.alloc (.map #[] 0)) w.heap.size 0 (setF []):=by
 have h:=Mp.MapAt.made w Tryz.prog 24 mkR
 have e:setF []=fun _=>none:=by funext y; simp [setF]
 rw [e]
 exact h
theorem sep_join {w0 w w' : World} {L M:List Ob} (h:Sep w0 w L) (k:Sep w w' M):Sep w0 w' (M++L):=by
 have hq:=h.quiet k.ext
 refine⟨hq.ext,fun o ho=>?_,fun o ho q hq2=>?_,fun i j o o' hi hj hne q h1 h2=>?_⟩
 ·rcases List.mem_append.1 ho with ho | ho
  ·exact k.each o ho
  ·exact hq.each o ho
 ·rcases List.mem_append.1 ho with ho | ho
  ·exact Nat.le_trans h.ext.size (k.base o ho q hq2)
  ·exact h.base o ho q hq2
 ·by_cases hiM:i<M.length
  ·rw [List.getElem?_append_left hiM] at hi
   by_cases hjM:j<M.length
   ·rw [List.getElem?_append_left hjM] at hj
    exact k.apart i j o o' hi hj hne q h1 h2
   ·rw [List.getElem?_append_right (by omega)] at hj
    have a1:=k.base o (List.mem_of_getElem? hi) q h1
    have a2:=o'.lt (h.each o' (List.mem_of_getElem? hj)) q h2
    omega
  ·rw [List.getElem?_append_right (by omega)] at hi
   by_cases hjM:j<M.length
   ·rw [List.getElem?_append_left hjM] at hj
    have a1:=k.base o' (List.mem_of_getElem? hj) q h2
    have a2:=o.lt (h.each o (List.mem_of_getElem? hi)) q h1
    omega
   ·rw [List.getElem?_append_right (by omega)] at hj
    exact h.apart _ _ o o' hi hj (by omega) q h1 h2
theorem rrefs_walk (v:Value) (L:List Om) (root:Rf) (w:World) (h:OmsAt w v L) (hw:∀ x∈L,OmWf x) (hr:RfWf root) (hl:L.length≤100000) :
  Calls Tryz.prog 64 #[.agg #[v,.int .i64 root.1,.int .i64 root.2]] w fun e w'=>∃ b n,e=.returned (.map (some b))∧Sep w w' [Mp.oMp Tryz.prog 24 mkR b n (setF (refsL root L))]:=by
 obtain⟨m0,m1⟩:=root
 have hmm:=@run_makeMap Tryz.prog
 obtain⟨base,cap,rfl,-,hT⟩:=h
 obtain⟨n,hln⟩:∃ n,L.length=n:=⟨_,rfl⟩
 obtain⟨kl,hkl⟩:=keyR hr
 have HH:=zz4 ⟨hT,hln,hw,hkl⟩
 rw [hln] at hl ⊢
 clear hT hln hw hkl
 show Calls _ _ #[.agg #[_,.int .i64 m0,.int .i64 m1]] _ _
 go_enter Tryz.func64,Tryz.ntmps64
 have hM:=set_made (w.alloc (.cells #[.slice base n cap,.int .i64 m0,.int .i64 m1] 26))
 rw [show (w.alloc (.cells #[.slice base n cap,.int .i64 m0,.int .i64 m1] 26)).heap.size=w.heap.size+1 from by simp] at hM
 have HM:=zz hM
 clear hM
 have hb0:=heap_alloc_old (.map #[] 0) (heap_alloc_at (w:=w) (.cells #[.slice base n cap,.int .i64 m0,.int .i64 m1] 26))
 have HB:=zz hb0
 clear hb0
 go_wp2_with (first | (refine Mp.wpList_insert_mp rfl _ _ _ 91 rfl 4 lawR mkR_inj Tryz.underlying91 rfl HM.out (by unfold maxLen; omega) (m0,m1) (.bool true) kl rfl rfl HH.out.2.2.2 ?_; intro w5 hm5 hx5; have q0:w5.cell? ⟨w.heap.size,0,none⟩=some (.slice base n cap):=cellOf (hx5.keep HB.out (by simp)) 0; have HM5:=zz2 ⟨hm5,hx5⟩; clear hm5 hx5))
 clear q0 hmm
 have S0:=(Sep.start w).new (((Ext.refl [] w).alloc (.cells #[.slice base n cap,.int .i64 m0,.int .i64 m1] 26)).alloc (.map #[] 0)) (Mp.oMp Tryz.prog 24 mkR (w.heap.size+1) 0 (setF [])) HM.out (fun k hk=>by simp [Mp.oMp] at hk; omega)
 have S:=S0.upd 0 (Mp.oMp Tryz.prog 24 mkR (w.heap.size+1) 1 (setF (refsL (m0,m1) (L.take 0)))) rfl HM5.out.2 (Fr.refl _ _) (by have:=HM5.out.1; rw [setF_more] at this; exact this)
 obtain⟨mb,hmb⟩:∃ mb,w.heap.size+1=mb:=⟨_,rfl⟩
 rw [hmb] at S ⊢
 have HS:=zz S
 clear S S0 hmb HM HM5 HB
 go_loopg [15] n (fun g iv wr=>∃ i m:Nat,g+i=n∧iv=.int .i64 i∧m≤i*65536+1∧Sep w wr [Mp.oMp Tryz.prog 24 mkR mb m (setF (refsL (m0,m1) (L.take i)))])
 case atStart=>exact⟨0,1,by omega,rfl,by omega,HS.out⟩
 case round=>
  clear HS
  obtain⟨i,m,hgi,rfl,hm,S⟩:=hrel
  by_cases hlt:i<n
  case neg=>
   obtain rfl:gk=0:=by omega
   have hin:i=n:=by omega
   subst hin
   rw [List.take_of_length_le (by rw [HH.out.2.1]; omega)] at S
   have HF:=zz S
   clear S
   go_wp2_with fail
   go_ret
   exact⟨_,_,rfl,HF.out⟩
  case pos=>
  obtain⟨g,rfl⟩:∃ g,gk=g+1:=⟨gk - 1,by omega⟩
  have hltz:(i:Int)<(n:Int):=by omega
  have hil:i<L.length:=by rw [HH.out.2.1]; exact hlt
  obtain⟨b,o,rfl,c1,c2,c3,c4,c5,hN⟩:=HH.out.1.ext S.ext i hil
  have hwx:=HH.out.2.2.1 _ (List.getElem_mem hil)
  have htk:L.take (i+1)=L.take i++[L[i]'hil]:=by rw [List.take_succ_eq_append_getElem hil]
  generalize L[i]'hil=x at *
  obtain⟨tb,tc,htv⟩:=tree_slice hN
  have hrl:refsL (m0,m1) (L.take (i+1))=refsL (m0,m1) (L.take i)++refsN x.tree:=by rw [htk,refsL_snoc]
  have HRf:=zz (fun W (hx:Ext [] wr W)=>refsS_walk x.tv x.tree W (hN.ext hx) hwx.lt)
  have hR6:=refs_len x.tree
  have HRW:=zz3 ⟨hrl,fun r (hr:r∈refsN x.tree)=>refs_wf hr,S⟩
  obtain⟨num,gen,tv,st,dt,tr⟩:=x
  have htv:tv=.slice tb tr.length tc:=htv
  subst htv
  dsimp only at c1 c2 c3 c4 c5 HRf HRW hR6
  obtain⟨tn,htn⟩:∃ tn,tr.length=tn:=⟨_,rfl⟩
  rw [htn] at c3 HRf
  obtain⟨R,hR⟩:∃ R,refsN tr=R:=⟨_,rfl⟩
  rw [hR] at HRf HRW hR6
  clear S hN hwx htk htn hrl htv hR
  go_wp2_with fail
  refine (HRf.out _ ((Ext.refl [] wr).alloc _)).mono ?_
  rintro e w6 ⟨v2,rfl,S6⟩
  have hr6:w6.ownsRow 0 24 2 v2 R.length (rfC R):=S6.get 0 rfl
  obtain⟨rb,rc,rfl⟩:=row_slice hr6
  obtain⟨K,hK⟩:∃ K,R.length=K:=⟨_,rfl⟩
  have SJ:=sep_join (HRW.out.2.2.quiet ((Ext.refl [] wr).alloc _)) S6
  rw [hK] at SJ hR6 ⊢
  have HJ:=zz SJ
  have HK:=zz hK
  clear SJ hr6 S6 hK c1 c2 c3 c4 c5 HRf
  go_wp2_with fail
  go_loopg [23] K (fun g2 jv wx=>∃ j:Nat,g2+j=K∧jv=.int .i64 j∧Sep w wx [oSl 24 2 (.slice rb K rc) K (rfC R),Mp.oMp Tryz.prog 24 mkR mb (m+j) (setF (refsL (m0,m1) (L.take i)++R.take j))])
  case atStart=>exact⟨0,by omega,rfl,by rw [List.take_zero,List.append_nil]; exact HJ.out⟩
  case round=>
   clear HJ
   obtain⟨j,hgj,rfl,S⟩:=hrel
   by_cases hjK:j<K
   case neg=>
    obtain rfl:gk=0:=by omega
    have hjK2:j=K:=by omega
    subst hjK2
    rw [show R.take j=R from List.take_of_length_le (by rw [HK.out]; omega),←HRW.out.1] at S
    have HF:=zz (Sep.tail S)
    clear S
    go_wp2_with fail
    go_roundg g
    case measure=>omega
    case rel=>exact⟨i+1,m+j,by omega,by go_num,by omega,HF.out⟩
   case pos=>
   obtain⟨g2,rfl⟩:∃ g2,gk=g2+1:=⟨gk - 1,by omega⟩
   have hjz:(j:Int)<(K:Int):=by omega
   have hjR:j<R.length:=by rw [HK.out]; exact hjK
   have hr6:wr.ownsRow 0 24 2 (.slice rb K rc) R.length (rfC R):=by rw [HK.out]; exact S.get 0 rfl
   obtain⟨rp,rc2,he⟩:=row_form hr6 (by omega)
   rw [HK.out] at he
   cases he
   obtain⟨q1,q2⟩:=rfC_at R j hjR
   rw [HK.out] at hr6
   have d1:=row_cell hr6 q1
   have d2:=row_cell hr6 q2
   have htk:R.take (j+1)=R.take j++[R[j]'hjR]:=by rw [List.take_succ_eq_append_getElem hjR]
   have hwr:=HRW.out.2.1 _ (List.getElem_mem hjR)
   generalize R[j]'hjR=r at *
   obtain⟨r1,r2⟩:=r
   dsimp only at d1 d2
   obtain⟨kl2,hkl2⟩:=keyR hwr
   have HM9:=zz ((S.get 1 rfl:Mp.MapAt Tryz.prog 24 mkR wr mb (m+j) (setF (refsL (m0,m1) (L.take i)++R.take j))).ext ((Ext.refl [] wr).alloc (.cells #[.int .i64 r1,.int .i64 r2] 24)) (by simp))
   have HS9:=zz3 ⟨S.quiet ((Ext.refl [] wr).alloc (.cells #[.int .i64 r1,.int .i64 r2] 24)),hkl2,htk⟩
   clear S hr6 q1 q2 hwr hkl2 htk
   go_wp2_with (first | (at_mapUpdate; refine Mp.wpList_store_mp rfl _ _ _ 91 rfl 4 lawR mkR_inj Tryz.underlying91 rfl HM9.out (by unfold maxLen; omega) (r1,r2) (.bool true) kl2 rfl rfl HS9.out.2.1 ?_; intro w7 hm7 hx7; rw [setF_more] at hm7; have S7:=HS9.out.1.upd 1 (Mp.oMp Tryz.prog 24 mkR mb (m+j+1) (setF ((refsL (m0,m1) (L.take i)++R.take j)++[(r1,r2)]))) rfl hx7 (Fr.refl _ _) hm7; have HS7:=zz S7; clear S7 hm7 hx7))
   go_roundg g2
   case measure=>omega
   case rel=>exact⟨j+1,by omega,by go_num,by rw [HS9.out.2.2,←List.append_assoc]; exact HS7.out⟩
def maxN (l:List Int) (m:Int):Int:=l.foldl max m
theorem max_spec:∀ (l:List Int) (m:Int),m≤maxN l m∧(∀ x∈l,x≤maxN l m)∧(maxN l m=m∨maxN l m∈l)
 | [],m=>⟨Int.le_refl _,fun x hx=>(by cases hx),.inl rfl⟩
 | y::l,m=>by
  obtain⟨h1,h2,h3⟩:=max_spec l (max m y)
  have e:maxN (y::l) m=maxN l (max m y):=rfl
  rw [e]
  refine⟨by omega,fun x hx=>?_,?_⟩
  ·rcases List.mem_cons.1 hx with rfl | hx
   ·omega
   ·exact h2 x hx
  ·rcases h3 with h3 | h3
   ·by_cases hm:y≤m
    ·exact .inl (by rw [h3]; omega)
    ·exact .inr (by rw [h3,show max m y=y by omega]; exact List.mem_cons_self ..)
   ·exact .inr (List.mem_cons_of_mem _ h3)
def mostN (root:Rf) (L:List Om):Int:=maxN (L.map (·.num)) (maxN ((refsL root L).map (·.1)) 0)
theorem max_eq {l:List Int} {m:Int} (h0:0≤m) (h1:∀ x∈l,x≤m) (h2:m=0∨m∈l):m=maxN l 0:=by
 obtain⟨k1,k2,k3⟩:=max_spec l 0
 rcases h2 with rfl | h2
 ·rcases k3 with k3 | k3
  ·exact k3.symm
  ·have:=h1 _ k3
   omega
 ·have:=k2 m h2
  rcases k3 with k3 | k3
  ·omega
  ·have:=h1 _ k3
   omega
theorem maxN_snoc (l:List Int) (x m:Int):maxN (l++[x]) m=max (maxN l m) x:=by
 unfold maxN
 rw [List.foldl_append]
 rfl
theorem setF_val {l:List Rf} {r:Rf} {v:Value} (h:setF l r=some v):r∈l∧v=.bool true:=by
 unfold setF at h
 split at h
 ·rename_i hm
  exact⟨hm,(Option.some.inj h).symm⟩
 ·cases h
theorem refsL_wf {root:Rf} (hr:RfWf root) {L:List Om} {r:Rf} (h:r∈refsL root L):RfWf r:=by
 rcases List.mem_cons.1 h with rfl | h
 ·exact hr
 ·obtain⟨x,-,hx⟩:=List.mem_flatMap.1 h
  exact refs_wf hx
theorem above_walk (v:Value) (L:List Om) (root:Rf) (w:World) (h:OmsAt w v L) (hw:∀ x∈L,OmWf x) (hr:RfWf root) (hl:L.length≤100000) (hm:mostN root L<9223372036854775807) :
  Calls Tryz.prog 25 #[.agg #[v,.int .i64 root.1,.int .i64 root.2]] w fun e w'=>e=.returned (.int .i64 (mostN root L+1))∧Ext [] w w':=by
 have HR:=zz (fun W (hx:Ext [] w W)=>rrefs_walk v L root W (h.ext hx) hw hr hl)
 have hwr:∀ r∈refsL root L,RfWf r:=fun r hr2=>refsL_wf hr hr2
 obtain⟨m0,m1⟩:=root
 obtain⟨base,cap,rfl,-,hT⟩:=h
 obtain⟨n,hln⟩:∃ n,L.length=n:=⟨_,rfl⟩
 obtain⟨Z,hZ⟩:∃ Z,refsL (m0,m1) L=Z:=⟨_,rfl⟩
 have HH:=zz6 ⟨hT,hln,hw,hm,hwr,hZ⟩
 rw [hln] at hl HR ⊢
 simp only [hZ] at HR
 clear hT hln hw hm hwr hZ
 show Calls _ _ #[.agg #[_,.int .i64 m0,.int .i64 m1]] _ _
 go_enter Tryz.func25,Tryz.ntmps25
 go_wp2_with fail
 refine (HR.out _ ((Ext.refl [] w).alloc _)).mono ?_
 rintro e w1 ⟨mb,mn,rfl,S⟩
 have hb1:=S.ext.keep (heap_alloc_at (w:=w) (.cells #[.slice base n cap,.int .i64 m0,.int .i64 m1] 26)) (by simp)
 have HM:=zz (S.get 0 rfl:Mp.MapAt Tryz.prog 24 mkR w1 mb mn (setF Z))
 have HX:=zz3 ⟨((Ext.refl [] w).alloc (.cells #[.slice base n cap,.int .i64 m0,.int .i64 m1] 26)).trans S.ext,S,hb1⟩
 clear S hb1 HR
 go_wp2_with (first | (at_range; refine Mp.wpList_range_mp rfl _ 91 rfl 4 lawR Tryz.underlying91 rfl HM.out ?_; intro w2 cnt hrg hx2 hsz2))
 go_frame
 have S2:=HX.out.2.1.upd 0 (Mp.oRg Tryz.prog 24 mkR mb w1.heap.size mn (setF Z) (fun x=>(setF Z x).isSome) cnt) rfl hx2.weak (fun k hk=>by
  rcases List.mem_cons.1 hk with rfl | hk
  ·exact .inl (by simp [Mp.oMp])
  ·obtain rfl:k=w1.heap.size:=by simpa using hk
   exact .inr (Nat.le_refl _)) hrg
 obtain⟨p,hp⟩:∃ p,w1.heap.size=p:=⟨_,rfl⟩
 rw [hp] at S2 ⊢
 obtain⟨W0,hW0⟩:∃ W0,w.alloc (Obj.cells #[.slice base n cap,.int .i64 m0,.int .i64 m1] 26)=W0:=⟨_,rfl⟩
 have hx0:Ext [] w W0:=by rw [←hW0]; exact (Ext.refl [] w).alloc _
 have hb0:W0.heap[w.heap.size]? = some (.cells #[.slice base n cap,.int .i64 m0,.int .i64 m1] 26 (0,0)):=by rw [←hW0]; exact heap_alloc_at _
 rw [hW0] at S2
 have HS:=zz S2
 have HB:=zz2 ⟨hx0,hb0⟩
 clear S2 hp hW0 hx0 hb0 HX HM hx2 hrg hsz2
 go_loopg [3] cnt (fun g mv wr=>∃ (left:Rf→Bool) (c:Nat) (m:Int),c≤g∧mv=.int .i64 m∧0≤m∧(∀ r∈Z,left r=false→r.1≤m)∧(m=0∨m∈Z.map (·.1))∧Sep W0 wr [Mp.oRg Tryz.prog 24 mkR mb p mn (setF Z) left c])
 case atStart=>exact⟨_,cnt,0,Nat.le_refl _,rfl,Int.le_refl _,fun r hr2 hl2=>by simp [setF,hr2] at hl2,.inl rfl,HS.out⟩
 case round=>
  clear HS
  obtain⟨left,c,m,hcg,rfl,hm0,hml,hmz,S⟩:=hrel
  have HRG:=zz (S.get 0 rfl:Mp.RangeAt Tryz.prog 24 mkR wr mb p mn (setF Z) left c)
  have HX:=zz3 ⟨hml,hmz,S⟩
  clear hml hmz S
  go_wp2_with (first | (at_next; refine Mp.wpList_next_mp rfl _ rfl lawR mkR_inj invR rfl HRG.out ?_ ?_))
  ·intro hc0 hl0
   have hmax:m=maxN (Z.map (·.1)) 0:=max_eq hm0 (fun x hx=>by
    obtain⟨r,hr2,rfl⟩:=List.mem_map.1 hx
    obtain⟨kl,hkl⟩:=keyR (HH.out.2.2.2.2.1 r (by rw [HH.out.2.2.2.2.2]; exact hr2))
    exact HX.out.1 r hr2 (hl0 r.1 r.2 kl hkl)) HX.out.2.1
   have q0:wr.cell? ⟨w.heap.size,0,none⟩=some (.slice base n cap):=cellOf (HX.out.2.2.ext.keep HB.out.2 (by simp)) 0
   have HXE:=zz2 ⟨HB.out.1.trans HX.out.2.2.ext,hmax⟩
   clear hmax HRG HX hl0
   go_wp2_with fail
   clear q0
   have H4:=zz (Ext.refl [] wr)
   go_loopg [3,21] n (fun g mv iv wx=>∃ i:Nat,g+i=n∧iv=.int .i64 i∧mv=.int .i64 (maxN ((L.take i).map (·.num)) m)∧Ext [] wr wx)
   case atStart=>exact⟨0,by omega,rfl,rfl,H4.out⟩
   case round=>
    clear H4
    obtain⟨i,hgi,rfl,rfl,hx⟩:=hrel
    by_cases hlt:i<n
    case neg=>
     obtain rfl:gk=0:=by omega
     rw [List.take_of_length_le (by rw [HH.out.2.1]; omega)]
     have hmost:maxN (L.map (·.num)) m=mostN (m0,m1) L:=by rw [mostN,HH.out.2.2.2.2.2,←HXE.out.2]
     rw [hmost]
     have hlo:0≤mostN (m0,m1) L:=by
      rw [←hmost]
      have:=(max_spec (L.map (·.num)) m).1
      omega
     have hhi:=HH.out.2.2.2.1
     obtain⟨M,hM⟩:∃ M,mostN (m0,m1) L=M:=⟨_,rfl⟩
     rw [hM] at hlo hhi ⊢
     have HF:=zz2 ⟨HXE.out.1.trans hx,hM⟩
     clear hx hmost hM
     go_wp2_with fail
     go_ret
     exact⟨by rw [HF.out.2]; rfl,HF.out.1⟩
    case pos=>
    obtain⟨g,rfl⟩:∃ g,gk=g+1:=⟨gk - 1,by omega⟩
    have hltz:(i:Int)<(n:Int):=by omega
    have hil:i<L.length:=by rw [HH.out.2.1]; exact hlt
    obtain⟨b,o,rfl,c1,c2,c3,c4,c5,hN⟩:=(HH.out.1.ext HXE.out.1).ext hx i hil
    have htk:(L.take (i+1)).map (·.num)=(L.take i).map (·.num)++[(L[i]'hil).num]:=by rw [List.take_succ_eq_append_getElem hil,List.map_append]; rfl
    generalize L[i]'hil=x at *
    obtain⟨tb,tc,htv⟩:=tree_slice hN
    obtain⟨num,gen,tv,st,dt,tr⟩:=x
    have htv:tv=.slice tb tr.length tc:=htv
    subst htv
    dsimp only at c1 c2 c3 c4 c5 htk
    have hmx:=maxN_snoc ((L.take i).map (·.num)) num m
    rw [←htk] at hmx
    obtain⟨y,hy⟩:∃ y,maxN ((L.take i).map (·.num)) m=y:=⟨_,rfl⟩
    rw [hy] at hmx ⊢
    have HMX:=zz2 ⟨hmx,hx⟩
    clear hmx hx hy htk hN
    rcases Int.le_total y num with hle | hle
    all_goals (
     have qm:=(show max y num=_ from by first | exact Int.max_eq_right hle | exact Int.max_eq_left hle)
     go_wp2_with fail
     go_roundg g
     case measure=>omega
     case rel=>exact⟨i+1,by omega,by go_num,by rw [HMX.out.1,qm],HMX.out.2.alloc _⟩)
  ·intro r1 r2 kl v w5 c' hk hlr hfr hrg hlt hx5 hen
   obtain⟨hrZ,rfl⟩:=setF_val hfr
   obtain⟨g,rfl⟩:∃ g,gk=g+1:=⟨gk - 1,by omega⟩
   have S5:=HX.out.2.2.upd 0 (Mp.oRg Tryz.prog 24 mkR mb p mn (setF Z) (fun y=>left y && !decide (y=(r1,r2))) c') rfl (hx5.mono (fun i _ hi=>by simp [Mp.oRg] at hi ⊢; exact .inr hi)) (Fr.refl _ _) hrg
   have HE:=zz2 ⟨S5,hrZ⟩
   clear S5 hrZ hrg hx5 hlr hfr hk
   rcases Int.le_total m r1 with hle | hle
   all_goals (
    have qm:=(show max m r1=_ from by first | exact Int.max_eq_right hle | exact Int.max_eq_left hle)
    go_wp2_with fail
    go_roundg g
    case measure=>omega
    case rel=>
     refine⟨_,c',_,by omega,rfl,by omega,fun r hr2 hl2=>?_,?_,HE.out.1.quiet ((Ext.refl [] w5).alloc _)⟩
     ·by_cases he:r=(r1,r2)
      ·subst he
       show r1≤_
       omega
      ·simp [he] at hl2
       have:=HX.out.1 r hr2 hl2
       omega
     ·first
       | exact HX.out.2.1
       | exact .inr (List.mem_map.2 ⟨(r1,r2),HE.out.2,rfl⟩))
def hasO (L:List Om) (r:Rf):Bool:=(findO L r).isSome
def pushQ (L:List Om) (Q:List Rf) (rs:List Rf):List Rf:=rs.foldl (fun Q r=>if hasO L r=true∧r∉Q then Q++[r] else Q) Q
def treeO (L:List Om) (r:Rf):List Nd:=match findO L r with
 | some x=>x.tree
 | none=>[]
def allG (L:List Om):Nat→Nat→List Rf→List Rf
 | 0,_,Q=>Q
 | g+1,i,Q=>if i<Q.length then allG L g (i+1) (pushQ L Q (refsN (treeO L (Q.getD i (0,0))))) else Q
def allN (root:Rf) (L:List Om):List Rf:=if hasO L root=true then allG L (L.length+1) 0 [root] else []
theorem pushQ_snoc (L:List Om) (Q rs:List Rf) (r:Rf):pushQ L Q (rs++[r])=if hasO L r=true∧r∉pushQ L Q rs then pushQ L Q rs++[r] else pushQ L Q rs:=by
 unfold pushQ
 rw [List.foldl_append]
 rfl
def QOk (L:List Om) (Q:List Rf):Prop:=Q.Nodup∧∀ r∈Q,hasO L r=true
theorem pushQ_ok (L:List Om):∀ (rs Q:List Rf),QOk L Q→QOk L (pushQ L Q rs)
 | [],Q,h=>h
 | r::rs,Q,h=>by
  show QOk L (pushQ L (if hasO L r=true∧r∉Q then Q++[r] else Q) rs)
  refine pushQ_ok L rs _ ?_
  split
  ·rename_i hc
   refine⟨List.nodup_append.2 ⟨h.1,by simp,fun a ha b hb e=>?_⟩,fun a ha=>?_⟩
   ·subst e
    obtain rfl:=List.mem_singleton.1 hb
    exact hc.2 ha
   ·rcases List.mem_append.1 ha with ha | ha
    ·exact h.2 a ha
    ·obtain rfl:=List.mem_singleton.1 ha
     exact hc.1
  ·exact h
theorem qok_len {L:List Om} {Q:List Rf} (h:QOk L Q):Q.length≤L.length:=by
 have:=List.Nodup.length_le_of_subset (l₂:=L.map fun x=>(x.num,x.gen)) h.1 (fun r hr=>by
  have h1:=h.2 r hr
  unfold hasO at h1
  cases hf:findO L r with
  | none=>rw [hf] at h1; cases h1
  | some x=>
   obtain⟨hx,rfl⟩:=findO_mem hf
   exact List.mem_map.2 ⟨x,hx,rfl⟩)
 rwa [List.length_map] at this
theorem results_row_tmp {P:Program} {fn:Func} {p u:Tmp} {ty:TypeId} (h:fn.results=#[.cell p ty,.tmp u]) (tmps:Array Value) (w:World) (g:Nat) (t:TypeId) (cs:Array Value) (fr:Nat×Nat) (d:TypeDesc)
  (hp:tmps.getD p undef=.pointer (some ⟨g,0,none⟩)) (hg:w.heap[g]? = some (.cells cs t fr))
  (hu:P.underlying ty=some d) (hd:(match d with | .struct _ | .array _ _=>true | _=>false)=true) (hi:(P.info? ty).map (·.size)=some cs.size) :
  (results fn tmps).run P w=.ok (.tuple #[.agg cs,tmps.getD u undef]) w:=by
 have hp' : tmps[p]?.getD undef=.pointer (some ⟨g,0,none⟩):=by simpa using hp
 simp [results,h,hp',asAddr,run_loadVar_row w g t ty cs fr d hg hu hd hi]
theorem sizeObj:(Tryz.prog.info? 35).map (·.size)=some 5:=by kernel_rfl
theorem sfind_walk (v:Value) (L:List Om) (m0 m1:Int) (r:Rf) (w:World) (h:OmsAt w v L) (hl:L.length≤9223372036854775807) :
  Calls Tryz.prog 86 #[.agg #[v,.int .i64 m0,.int .i64 m1],.agg #[.int .i64 r.1,.int .i64 r.2]] w fun e w'=>e=.returned (.tuple #[omVo (findO L r),.bool (hasO L r)])∧Ext [] w w':=by
 obtain⟨r1,r2⟩:=r
 obtain⟨base,cap,rfl,-,hT⟩:=id h
 obtain⟨W0,hW0⟩:∃ W0,((w.alloc (Obj.cells #[.slice base L.length cap,.int .i64 m0,.int .i64 m1] 26)).alloc (Obj.cells #[.int .i64 r1,.int .i64 r2] 24)).alloc (Obj.cells #[.int .i64 0,.int .i64 0,.slice none 0 0,.bool false,.string ⟨#[]⟩] 35)=W0:=⟨_,rfl⟩
 have hx0:Ext [] w W0:=by rw [←hW0]; exact (((Ext.refl [] w).alloc _).alloc _).alloc _
 have hbA:W0.heap[w.heap.size]? = some (.cells #[.slice base L.length cap,.int .i64 m0,.int .i64 m1] 26 (0,0)):=by rw [←hW0]; exact heap_alloc_old _ (heap_alloc_old _ (heap_alloc_at _))
 have hbB:W0.heap[w.heap.size+1]? = some (.cells #[.int .i64 r1,.int .i64 r2] 24 (0,0)):=by
  have:=heap_alloc_at (w:=w.alloc (Obj.cells #[.slice base L.length cap,.int .i64 m0,.int .i64 m1] 26)) (.cells #[.int .i64 r1,.int .i64 r2] 24)
  rw [show (w.alloc (Obj.cells #[.slice base L.length cap,.int .i64 m0,.int .i64 m1] 26)).heap.size=w.heap.size+1 from by simp] at this
  rw [←hW0]; exact heap_alloc_old _ this
 have hbC:W0.heap[w.heap.size+1+1]? = some (.cells #[.int .i64 0,.int .i64 0,.slice none 0 0,.bool false,.string ⟨#[]⟩] 35 (0,0)):=by
  have:=heap_alloc_at (w:=(w.alloc (Obj.cells #[.slice base L.length cap,.int .i64 m0,.int .i64 m1] 26)).alloc (Obj.cells #[.int .i64 r1,.int .i64 r2] 24)) (.cells #[.int .i64 0,.int .i64 0,.slice none 0 0,.bool false,.string ⟨#[]⟩] 35)
  rw [show ((w.alloc (Obj.cells #[.slice base L.length cap,.int .i64 m0,.int .i64 m1] 26)).alloc (Obj.cells #[.int .i64 r1,.int .i64 r2] 24)).heap.size=w.heap.size+1+1 from by simp,hW0] at this
  exact this
 have HI:=zz (idxO_walk _ L (r1,r2) (w.heap.size+1) W0 (h.ext hx0) (cellOf hbB 0) (cellOf hbB 1) hl)
 have hsp:=idxB_find (isR (r1,r2)) L 0
 obtain⟨n,hn⟩:∃ n,L.length=n:=⟨_,rfl⟩
 obtain⟨q,hq⟩:∃ q,idxB (isR (r1,r2)) L 0=q:=⟨_,rfl⟩
 have HH:=zz4 ⟨hx0,hbA,hbC,hT⟩
 rw [hn] at hl ⊢
 rw [hn] at HI HH hW0
 rw [hq] at HI hsp
 have hf:findO L (r1,r2)=L.find? (isR (r1,r2)):=rfl
 unfold hasO
 rw [hf]
 show Calls _ _ #[_,.agg #[.int .i64 r1,.int .i64 r2]] _ _
 rcases hsp with ⟨rfl,hno⟩ | ⟨k,hk,rfl,hso⟩
 ·rw [hno]
  clear hno hf hq hbA hbB hbC hT h hx0
  go_enter Tryz.func86,Tryz.ntmps86
  go_upto_region 1 with (fail)
  have gA:=cellOf HH.out.2.1 0
  clear hW0
  go_wp2_with fail
  refine HI.out.mono ?_
  rintro e w2 ⟨rfl,hx⟩
  have HX:=zz hx
  have hbC:=hx.keep HH.out.2.2.1 (by simp)
  have k0:=cellOf hbC 0
  have k1:=cellOf hbC 1
  have k2:=cellOf hbC 2
  have k3:=cellOf hbC 3
  have k4:=cellOf hbC 4
  have f0:=freeOf hbC 0
  have f1:=freeOf hbC 1
  have f2:=freeOf hbC 2
  have f3:=freeOf hbC 3
  have f4:=freeOf hbC 4
  clear hx gA HI
  go_wp2_with fail
  (try simp only [Exit.inBlock,Exit.then])
  refine bodyPost_ret (results_row_tmp rfl _ _ (w.heap.size+1+1) 35 #[.int .i64 0,.int .i64 0,.slice none 0 0,.bool false,.string ⟨#[]⟩] (0,0) _ rfl (heap_setCell_same (heap_setCell_same (heap_setCell_same (heap_setCell_same (heap_setCell_same hbC _) _) _) _) _) Tryz.underlying35 rfl sizeObj) rfl ?_
  refine⟨rfl,?_⟩
  have hpW:w.heap.size≤w.heap.size+1+1:=by omega
  exact (((((HH.out.1.trans HX.out).setCell _ _ (.inr hpW)).setCell _ _ (.inr hpW)).setCell _ _ (.inr hpW)).setCell _ _ (.inr hpW)).setCell _ _ (.inr hpW)
 ·rw [hso]
  have hkz:(k:Int)<(n:Int):=by omega
  have hk0:(0:Int)≤(k:Int):=by omega
  rw [Nat.zero_add] at HI
  obtain⟨xb,xo,rfl,-⟩:=hT k hk
  clear hso hf hq hbA hbB hbC hT h hx0
  go_enter Tryz.func86,Tryz.ntmps86
  go_upto_region 1 with (fail)
  have gA:=cellOf HH.out.2.1 0
  clear hW0
  go_wp2_with fail
  refine HI.out.mono ?_
  rintro e w2 ⟨rfl,hx⟩
  have HX:=zz hx
  have hbC:=hx.keep HH.out.2.2.1 (by simp)
  have k0:=cellOf hbC 0
  have k1:=cellOf hbC 1
  have k2:=cellOf hbC 2
  have k3:=cellOf hbC 3
  have k4:=cellOf hbC 4
  have f0:=freeOf hbC 0
  have f1:=freeOf hbC 1
  have f2:=freeOf hbC 2
  have f3:=freeOf hbC 3
  have f4:=freeOf hbC 4
  have gA:=hx.cell gA
  obtain⟨b9,o9,e9,n1,n2,n3,n4,n5,hN⟩:=(HH.out.2.2.2.ext (HH.out.1.trans hx)) k hk
  cases e9
  obtain⟨x,hxk⟩:∃ x,L[k]'hk=x:=⟨_,rfl⟩
  rw [hxk] at n1 n2 n3 n4 n5 hN
  obtain⟨tb,tc,htv⟩:=tree_slice hN
  have HE:=zz hxk
  clear hxk
  obtain⟨num,gen,tv,st,dt,tr⟩:=x
  have htv:tv=.slice tb tr.length tc:=htv
  subst htv
  dsimp only at n1 n2 n3 n4 n5
  clear hx HI hN
  go_upto_region 4 with (fail)
  go_wp2_with fail
  (try simp only [Exit.inBlock,Exit.then])
  refine bodyPost_ret (results_row_tmp rfl _ _ (w.heap.size+1+1) 35 #[.int .i64 num,.int .i64 gen,.slice tb tr.length tc,.bool st,.string dt] (0,0) _ rfl (heap_setCell_same (heap_setCell_same (heap_setCell_same (heap_setCell_same (heap_setCell_same hbC _) _) _) _) _) Tryz.underlying35 rfl sizeObj) rfl ?_
  refine⟨by rw [HE.out]; rfl,?_⟩
  have hpW:w.heap.size≤w.heap.size+1+1:=by omega
  exact (((((HH.out.1.trans HX.out).setCell _ _ (.inr hpW)).setCell _ _ (.inr hpW)).setCell _ _ (.inr hpW)).setCell _ _ (.inr hpW)).setCell _ _ (.inr hpW)
theorem oms_nodes {w:World} {base:Option Addr} {L:List Om} (h:OmsIn w base L) {x:Om} (hx:x∈L):NodesAt w x.tv x.tree:=by
 obtain⟨i,hi,rfl⟩:=List.getElem_of_mem hx
 obtain⟨b,o,-,h1⟩:=h i hi
 exact h1.nodes
theorem sep_pre {w w0 w1:World} {L:List Ob} (h:Sep w0 w1 L) (hx:Ext [] w w0):Sep w w1 L:=
 ⟨hx.trans h.ext,h.each,fun o ho k hk=>Nat.le_trans hx.size (h.base o ho k hk),h.apart⟩
theorem sep_head {w0 w:World} {a:Ob} {L:List Ob} (h:Sep w0 w (a::L)):Sep w0 w [a]:=
 ⟨h.ext,fun o ho=>h.each o (by rw [List.mem_singleton.1 ho]; exact List.mem_cons_self ..),fun o ho=>h.base o (by rw [List.mem_singleton.1 ho]; exact List.mem_cons_self ..),fun i j o o' hi hj hne=>by
  match i,j,hi,hj with
  | 0,0,_,_=>exact absurd rfl hne⟩
theorem field_tree (a b:Int) (tb:Option Addr) (tn tc:Nat) (st:Bool) (dt:ByteArray) (w:World):(Instr.field 35 (.agg #[.int .i64 a,.int .i64 b,.slice tb tn tc,.bool st,.string dt]) 2).run Tryz.prog w=.ok (.slice tb tn tc) w:=by kernel_rfl
theorem hasO_some {L:List Om} {r:Rf} (h:hasO L r=true):∃ x,findO L r=some x:=by
 unfold hasO at h
 cases hf:findO L r with
 | none=>rw [hf] at h; cases h
 | some x=>exact⟨x,rfl⟩
theorem all_walk (v:Value) (L:List Om) (root:Rf) (w:World) (h:OmsAt w v L) (hw:∀ x∈L,OmWf x) (hr:RfWf root) (hl:L.length≤100000) :
  Calls Tryz.prog 51 #[.agg #[v,.int .i64 root.1,.int .i64 root.2]] w fun e w'=>∃ v2,e=.returned v2∧Sep w w' [oSl 24 2 v2 (allN root L).length (rfC (allN root L))]:=by
 have HF:=zz (fun W (hx:Ext [] w W)=>sfind_walk v L root.1 root.2 root W (h.ext hx) (by omega))
 have HI0:=zz (fun W (hx:Ext [] w W)=>index_walk v L root.1 root.2 W (h.ext hx) hw hl)
 obtain⟨m0,m1⟩:=root
 obtain⟨kl,hkl⟩:=keyR hr
 have HKL:=zz hkl
 obtain⟨j0,hjf,hy0,hy1,hy2⟩:=info_parts infoRef17
 obtain⟨base,cap,rfl,-,hT⟩:=h
 obtain⟨n,hln⟩:∃ n,L.length=n:=⟨_,rfl⟩
 obtain⟨R,hR⟩:∃ R,allN (m0,m1) L=R:=⟨_,rfl⟩
 have HH:=zz4 ⟨hT,hln,hw,hR⟩
 rw [hR]
 rw [hln] at hl HF HI0 ⊢
 clear hT hln hw hkl hR
 have hmm:=@run_makeMap Tryz.prog
 have hb0:=heap_alloc_at (w:=w) (.cells #[.slice base n cap,.int .i64 m0,.int .i64 m1] 26)
 obtain⟨W0,hW0⟩:∃ W0,w.alloc (Obj.cells #[.slice base n cap,.int .i64 m0,.int .i64 m1] 26)=W0:=⟨_,rfl⟩
 have hx0:Ext [] w W0:=by rw [←hW0]; exact (Ext.refl [] w).alloc _
 rw [hW0] at hb0
 have HB:=zz2 ⟨hx0,hb0⟩
 have c0:=cellOf hb0 0
 have c1:=cellOf hb0 1
 have c2:=cellOf hb0 2
 clear hx0 hb0
 show Calls _ _ #[.agg #[_,.int .i64 m0,.int .i64 m1]] _ _
 unfold hasO at HF
 cases hfo:findO L (m0,m1) with
 | none=>
  have hR0:R=[]:=by rw [←HH.out.2.2.2,allN,hasO,hfo]; rfl
  subst hR0
  rw [hfo] at HF
  simp only [omVo,Option.isSome_none] at HF
  clear hfo hmm HI0
  go_enter Tryz.func51,Tryz.ntmps51
  go_upto_region 1 with (fail)
  clear hW0
  go_wp2_with fail
  refine (HF.out _ HB.out.1).mono ?_
  rintro e w1 ⟨rfl,hx1⟩
  have HX1:=zz hx1
  clear hx1 c0 c1 c2 HF
  go_wp2_with fail
  go_ret
  have HX:=(HB.out.1.trans HX1.out).alloc (.cells #[.int .i64 0,.int .i64 0,.slice none 0 0,.bool false,.string ⟨#[]⟩] 35)
  exact⟨_,rfl,((Sep.start w).quiet HX).new (Ext.refl _ _) (oSl 24 2 (.slice none 0 0) 0 []) (World.ownsRow_nil _ _ _ _) (fun q hq=>by simp [oSl,Value.ownBlock] at hq)⟩
 | some x=>
  have hR0:allG L (n+1) 0 [(m0,m1)]=R:=by rw [←HH.out.2.2.2,allN,hasO,hfo,HH.out.2.1]; rfl
  have hh0:hasO L (m0,m1)=true:=by rw [hasO,hfo]; rfl
  obtain⟨xb,xc,hxv⟩:=oms_tv HH.out.1 (findO_mem hfo).1
  rw [hfo] at HF
  simp only [omVo,Option.isSome_some] at HF
  obtain⟨xnum,xgen,xtv,xst,xdt,xtr⟩:=x
  have hxv:xtv=.slice xb xtr.length xc:=hxv
  subst hxv
  obtain⟨xn,hxn⟩:∃ xn,xtr.length=xn:=⟨_,rfl⟩
  simp only [hxn] at HF
  have HR0:=zz2 ⟨hR0,hh0⟩
  clear hfo hxn hR0 hh0
  go_enter Tryz.func51,Tryz.ntmps51
  go_upto_region 1 with (fail)
  clear hW0
  go_wp2_with fail
  refine (HF.out _ HB.out.1).mono ?_
  rintro e w1 ⟨rfl,hx1⟩
  have HX1:=zz hx1
  have c0:=hx1.cell c0
  have c1:=hx1.cell c1
  have c2:=hx1.cell c2
  clear hx1 HF
  go_upto_region 4 with (fail)
  obtain⟨W2,hW2⟩:∃ W2,w1.alloc (Obj.cells #[.int .i64 xnum,.int .i64 xgen,.slice xb xn xc,.bool xst,.string xdt] 35)=W2:=⟨_,rfl⟩
  have hx2:Ext [] w1 W2:=by rw [←hW2]; exact (Ext.refl [] w1).alloc _
  rw [hW2]
  have c0:=hx2.cell c0
  have c1:=hx2.cell c1
  have c2:=hx2.cell c2
  have HX2:=zz ((HB.out.1.trans HX1.out).trans hx2)
  have HI:=zz (fun W (hx:Ext [] W2 W)=>HI0.out W (HX2.out.trans hx))
  clear hW2 hx2 HI0 HX1
  go_cut [5,6] (fun c d wx=>∃ mi ms,c=.map (some mi)∧d=.map (some ms)∧Sep W2 wx [Mp.oMp Tryz.prog 24 mkR mi n (idxF L),Mp.oMp Tryz.prog 24 mkR ms 1 (setF [(m0,m1)])])
  case first=>
   have k0:∀ y:Ex W2,y.w.cell? ⟨w.heap.size,0,none⟩=some (.slice base n cap):=fun y=>y.cell c0
   have k1:∀ y:Ex W2,y.w.cell? ⟨w.heap.size,1,none⟩=some (.int .i64 m0):=fun y=>y.cell c1
   have k2:∀ y:Ex W2,y.w.cell? ⟨w.heap.size,2,none⟩=some (.int .i64 m1):=fun y=>y.cell c2
   refine wp_region_perm (C:=fun w'=>∃ y:Ex W2,w' = y.w) [0,3,4] 8 (by kernel_rfl) (by kernel_rfl) ⟨Ex.mk _ ((Ext.refl [] W2).drew),rfl⟩ ?_
   simp only [pick,List.getElem?_toArray,List.getElem?_cons_zero,List.getElem?_cons_succ,List.drop_succ_cons,List.drop_zero]
   repeat (go_big_quiet_step (fail))
   refine wpQuiet_nil ?_
   clear k0 k1 k2
   have HS0:=zz ((Sep.start W2).quiet ((Ext.refl [] W2).drew))
   obtain⟨Wd,hWd⟩:∃ Wd,W2.drew=Wd:=⟨_,rfl⟩
   rw [hWd] at HS0 ⊢
   clear hWd
   refine anyC_two (f:=4) (i:=1) (j:=2) (by kernel_rfl) (by decide) (by decide) rfl rfl rfl rfl (fun K hK=>?_) (fun K hK=>?_)
   ·go_wp2_with fail
    refine (HI.out Wd HS0.out.ext).mono ?_
    rintro e W2 ⟨bi3,rfl,Si⟩
    have HS1:=zz (sep_join HS0.out Si)
    clear Si
    go_wp2_with fail
    refine hK _ _ ⟨Ex.mk _ HS1.out.ext,rfl⟩ ?_
    clear hK K
    refine anyC_two (f:=3) (i:=2) (j:=7) (by kernel_rfl) (by decide) (by decide) rfl rfl rfl rfl (fun K hK=>?_) (fun K hK=>?_)
    ·have S4:=HS1.out.new ((Ext.refl [] W2).alloc (.map #[] 0)) (Mp.oMp Tryz.prog 24 mkR W2.heap.size 0 (setF [])) (set_made W2) (fun k hk=>by simp [Mp.oMp] at hk; omega)
     go_wp2_with fail
     obtain⟨mb6,hmb6⟩:∃ q,W2.heap.size=q:=⟨_,rfl⟩
     obtain⟨W5,hW5⟩:∃ W,W2.alloc (Obj.map #[] 0)=W:=⟨_,rfl⟩
     rw [hmb6] at S4 ⊢
     rw [hW5] at S4 ⊢
     have HS4:=zz S4
     clear S4 hmb6 hW5
     refine hK _ _ ⟨Ex.mk _ HS4.out.ext,rfl⟩ ?_
     clear hK K
     refine anyC_two (f:=2) (i:=5) (j:=7) (by kernel_rfl) (by decide) (by decide) rfl rfl rfl rfl (fun K hK=>?_) (fun K hK=>?_)
     ·refine Mp.wp_insert_mp _ _ _ 91 rfl 4 lawR mkR_inj Tryz.underlying91 rfl (show Mp.MapAt Tryz.prog 24 mkR W5 mb6 0 (setF []) from HS4.out.get 0 rfl) (by unfold maxLen; omega) (m0,m1) (.bool true) kl rfl rfl HKL.out ?_
      intro W8 hm5 hx5
      rw [setF_more] at hm5
      have HS7:=zz (HS4.out.upd 0 (Mp.oMp Tryz.prog 24 mkR mb6 1 (setF [(m0,m1)])) rfl hx5 (Fr.refl _ _) hm5)
      clear hm5 hx5
      refine hK _ _ ⟨Ex.mk _ HS7.out.ext,rfl⟩ ?_
      clear hK K
      refine anyC_two (f:=1) (i:=6) (j:=7) (by kernel_rfl) (by decide) (by decide) rfl rfl rfl rfl (fun K hK=>?_) (fun K hK=>?_)
      ·go_wp2_with fail
       refine hK _ _ ⟨Ex.mk _ HS7.out.ext,rfl⟩ ?_
       clear hK K
       refine anyC_one (f:=0) (i:=7) (by kernel_rfl) (by decide) rfl rfl (fun K hK=>?_)
       go_wp2_with fail
       refine hK _ _ ⟨Ex.mk _ HS7.out.ext,rfl⟩ ?_
       clear hK K
       refine anyC_end (by kernel_rfl) ?_
       go_wp2_with fail
       refine NoPanic.normal ?_
       go_wp2_with fail
       go_meet
       exact⟨_,_,rfl,rfl,swap01 HS7.out⟩
      ·go_wp2_with fail
       refine hK _ _ ⟨Ex.mk _ HS7.out.ext,rfl⟩ ?_
       clear hK K
       refine anyC_one (f:=0) (i:=6) (by kernel_rfl) (by decide) rfl rfl (fun K hK=>?_)
       go_wp2_with fail
       refine hK _ _ ⟨Ex.mk _ HS7.out.ext,rfl⟩ ?_
       clear hK K
       refine anyC_end (by kernel_rfl) ?_
       go_wp2_with fail
       refine NoPanic.normal ?_
       go_wp2_with fail
       go_meet
       exact⟨_,_,rfl,rfl,swap01 HS7.out⟩
     ·go_wp2_with fail
      refine hK _ _ ⟨Ex.mk _ HS4.out.ext,rfl⟩ ?_
      clear hK K
      refine anyC_one (f:=1) (i:=5) (by kernel_rfl) (by decide) rfl rfl (fun K hK=>?_)
      refine Mp.wp_insert_mp _ _ _ 91 rfl 4 lawR mkR_inj Tryz.underlying91 rfl (show Mp.MapAt Tryz.prog 24 mkR W5 mb6 0 (setF []) from HS4.out.get 0 rfl) (by unfold maxLen; omega) (m0,m1) (.bool true) kl rfl rfl HKL.out ?_
      intro W20 hm5 hx5
      rw [setF_more] at hm5
      have HS19:=zz (HS4.out.upd 0 (Mp.oMp Tryz.prog 24 mkR mb6 1 (setF [(m0,m1)])) rfl hx5 (Fr.refl _ _) hm5)
      clear hm5 hx5
      refine hK _ _ ⟨Ex.mk _ HS19.out.ext,rfl⟩ ?_
      clear hK K
      refine anyC_one (f:=0) (i:=6) (by kernel_rfl) (by decide) rfl rfl (fun K hK=>?_)
      go_wp2_with fail
      refine hK _ _ ⟨Ex.mk _ HS19.out.ext,rfl⟩ ?_
      clear hK K
      refine anyC_end (by kernel_rfl) ?_
      go_wp2_with fail
      refine NoPanic.normal ?_
      go_wp2_with fail
      go_meet
      exact⟨_,_,rfl,rfl,swap01 HS19.out⟩
    ·go_wp2_with fail
     refine hK _ _ ⟨Ex.mk _ HS1.out.ext,rfl⟩ ?_
     clear hK K
     refine anyC_one (f:=2) (i:=2) (by kernel_rfl) (by decide) rfl rfl (fun K hK=>?_)
     have S25:=HS1.out.new ((Ext.refl [] W2).alloc (.map #[] 0)) (Mp.oMp Tryz.prog 24 mkR W2.heap.size 0 (setF [])) (set_made W2) (fun k hk=>by simp [Mp.oMp] at hk; omega)
     go_wp2_with fail
     obtain⟨mb27,hmb27⟩:∃ q,W2.heap.size=q:=⟨_,rfl⟩
     obtain⟨W26,hW26⟩:∃ W,W2.alloc (Obj.map #[] 0)=W:=⟨_,rfl⟩
     rw [hmb27] at S25 ⊢
     rw [hW26] at S25 ⊢
     have HS25:=zz S25
     clear S25 hmb27 hW26
     refine hK _ _ ⟨Ex.mk _ HS25.out.ext,rfl⟩ ?_
     clear hK K
     refine anyC_one (f:=1) (i:=5) (by kernel_rfl) (by decide) rfl rfl (fun K hK=>?_)
     refine Mp.wp_insert_mp _ _ _ 91 rfl 4 lawR mkR_inj Tryz.underlying91 rfl (show Mp.MapAt Tryz.prog 24 mkR W26 mb27 0 (setF []) from HS25.out.get 0 rfl) (by unfold maxLen; omega) (m0,m1) (.bool true) kl rfl rfl HKL.out ?_
     intro W29 hm5 hx5
     rw [setF_more] at hm5
     have HS28:=zz (HS25.out.upd 0 (Mp.oMp Tryz.prog 24 mkR mb27 1 (setF [(m0,m1)])) rfl hx5 (Fr.refl _ _) hm5)
     clear hm5 hx5
     refine hK _ _ ⟨Ex.mk _ HS28.out.ext,rfl⟩ ?_
     clear hK K
     refine anyC_one (f:=0) (i:=6) (by kernel_rfl) (by decide) rfl rfl (fun K hK=>?_)
     go_wp2_with fail
     refine hK _ _ ⟨Ex.mk _ HS28.out.ext,rfl⟩ ?_
     clear hK K
     refine anyC_end (by kernel_rfl) ?_
     go_wp2_with fail
     refine NoPanic.normal ?_
     go_wp2_with fail
     go_meet
     exact⟨_,_,rfl,rfl,swap01 HS28.out⟩
   ·have S32:=HS0.out.new ((Ext.refl [] Wd).alloc (.map #[] 0)) (Mp.oMp Tryz.prog 24 mkR Wd.heap.size 0 (setF [])) (set_made Wd) (fun k hk=>by simp [Mp.oMp] at hk; omega)
    go_wp2_with fail
    obtain⟨mb34,hmb34⟩:∃ q,Wd.heap.size=q:=⟨_,rfl⟩
    obtain⟨W33,hW33⟩:∃ W,Wd.alloc (Obj.map #[] 0)=W:=⟨_,rfl⟩
    rw [hmb34] at S32 ⊢
    rw [hW33] at S32 ⊢
    have HS32:=zz S32
    clear S32 hmb34 hW33
    refine hK _ _ ⟨Ex.mk _ HS32.out.ext,rfl⟩ ?_
    clear hK K
    refine anyC_two (f:=3) (i:=1) (j:=5) (by kernel_rfl) (by decide) (by decide) rfl rfl rfl rfl (fun K hK=>?_) (fun K hK=>?_)
    ·go_wp2_with fail
     refine (HI.out W33 HS32.out.ext).mono ?_
     rintro e W36 ⟨bi37,rfl,Si⟩
     have HS35:=zz (sep_join HS32.out Si)
     clear Si
     go_wp2_with fail
     refine hK _ _ ⟨Ex.mk _ HS35.out.ext,rfl⟩ ?_
     clear hK K
     refine anyC_two (f:=2) (i:=5) (j:=7) (by kernel_rfl) (by decide) (by decide) rfl rfl rfl rfl (fun K hK=>?_) (fun K hK=>?_)
     ·refine Mp.wp_insert_mp _ _ _ 91 rfl 4 lawR mkR_inj Tryz.underlying91 rfl (show Mp.MapAt Tryz.prog 24 mkR W36 mb34 0 (setF []) from HS35.out.get 1 rfl) (by unfold maxLen; omega) (m0,m1) (.bool true) kl rfl rfl HKL.out ?_
      intro W39 hm5 hx5
      rw [setF_more] at hm5
      have HS38:=zz (HS35.out.upd 1 (Mp.oMp Tryz.prog 24 mkR mb34 1 (setF [(m0,m1)])) rfl hx5 (Fr.refl _ _) hm5)
      clear hm5 hx5
      refine hK _ _ ⟨Ex.mk _ HS38.out.ext,rfl⟩ ?_
      clear hK K
      refine anyC_two (f:=1) (i:=6) (j:=7) (by kernel_rfl) (by decide) (by decide) rfl rfl rfl rfl (fun K hK=>?_) (fun K hK=>?_)
      ·go_wp2_with fail
       refine hK _ _ ⟨Ex.mk _ HS38.out.ext,rfl⟩ ?_
       clear hK K
       refine anyC_one (f:=0) (i:=7) (by kernel_rfl) (by decide) rfl rfl (fun K hK=>?_)
       go_wp2_with fail
       refine hK _ _ ⟨Ex.mk _ HS38.out.ext,rfl⟩ ?_
       clear hK K
       refine anyC_end (by kernel_rfl) ?_
       go_wp2_with fail
       refine NoPanic.normal ?_
       go_wp2_with fail
       go_meet
       exact⟨_,_,rfl,rfl,HS38.out⟩
      ·go_wp2_with fail
       refine hK _ _ ⟨Ex.mk _ HS38.out.ext,rfl⟩ ?_
       clear hK K
       refine anyC_one (f:=0) (i:=6) (by kernel_rfl) (by decide) rfl rfl (fun K hK=>?_)
       go_wp2_with fail
       refine hK _ _ ⟨Ex.mk _ HS38.out.ext,rfl⟩ ?_
       clear hK K
       refine anyC_end (by kernel_rfl) ?_
       go_wp2_with fail
       refine NoPanic.normal ?_
       go_wp2_with fail
       go_meet
       exact⟨_,_,rfl,rfl,HS38.out⟩
     ·go_wp2_with fail
      refine hK _ _ ⟨Ex.mk _ HS35.out.ext,rfl⟩ ?_
      clear hK K
      refine anyC_one (f:=1) (i:=5) (by kernel_rfl) (by decide) rfl rfl (fun K hK=>?_)
      refine Mp.wp_insert_mp _ _ _ 91 rfl 4 lawR mkR_inj Tryz.underlying91 rfl (show Mp.MapAt Tryz.prog 24 mkR W36 mb34 0 (setF []) from HS35.out.get 1 rfl) (by unfold maxLen; omega) (m0,m1) (.bool true) kl rfl rfl HKL.out ?_
      intro W51 hm5 hx5
      rw [setF_more] at hm5
      have HS50:=zz (HS35.out.upd 1 (Mp.oMp Tryz.prog 24 mkR mb34 1 (setF [(m0,m1)])) rfl hx5 (Fr.refl _ _) hm5)
      clear hm5 hx5
      refine hK _ _ ⟨Ex.mk _ HS50.out.ext,rfl⟩ ?_
      clear hK K
      refine anyC_one (f:=0) (i:=6) (by kernel_rfl) (by decide) rfl rfl (fun K hK=>?_)
      go_wp2_with fail
      refine hK _ _ ⟨Ex.mk _ HS50.out.ext,rfl⟩ ?_
      clear hK K
      refine anyC_end (by kernel_rfl) ?_
      go_wp2_with fail
      refine NoPanic.normal ?_
      go_wp2_with fail
      go_meet
      exact⟨_,_,rfl,rfl,HS50.out⟩
    ·refine Mp.wp_insert_mp _ _ _ 91 rfl 4 lawR mkR_inj Tryz.underlying91 rfl (show Mp.MapAt Tryz.prog 24 mkR W33 mb34 0 (setF []) from HS32.out.get 0 rfl) (by unfold maxLen; omega) (m0,m1) (.bool true) kl rfl rfl HKL.out ?_
     intro W55 hm5 hx5
     rw [setF_more] at hm5
     have HS54:=zz (HS32.out.upd 0 (Mp.oMp Tryz.prog 24 mkR mb34 1 (setF [(m0,m1)])) rfl hx5 (Fr.refl _ _) hm5)
     clear hm5 hx5
     refine hK _ _ ⟨Ex.mk _ HS54.out.ext,rfl⟩ ?_
     clear hK K
     refine anyC_two (f:=2) (i:=1) (j:=6) (by kernel_rfl) (by decide) (by decide) rfl rfl rfl rfl (fun K hK=>?_) (fun K hK=>?_)
     ·go_wp2_with fail
      refine (HI.out W55 HS54.out.ext).mono ?_
      rintro e W57 ⟨bi58,rfl,Si⟩
      have HS56:=zz (sep_join HS54.out Si)
      clear Si
      go_wp2_with fail
      refine hK _ _ ⟨Ex.mk _ HS56.out.ext,rfl⟩ ?_
      clear hK K
      refine anyC_two (f:=1) (i:=6) (j:=7) (by kernel_rfl) (by decide) (by decide) rfl rfl rfl rfl (fun K hK=>?_) (fun K hK=>?_)
      ·go_wp2_with fail
       refine hK _ _ ⟨Ex.mk _ HS56.out.ext,rfl⟩ ?_
       clear hK K
       refine anyC_one (f:=0) (i:=7) (by kernel_rfl) (by decide) rfl rfl (fun K hK=>?_)
       go_wp2_with fail
       refine hK _ _ ⟨Ex.mk _ HS56.out.ext,rfl⟩ ?_
       clear hK K
       refine anyC_end (by kernel_rfl) ?_
       go_wp2_with fail
       refine NoPanic.normal ?_
       go_wp2_with fail
       go_meet
       exact⟨_,_,rfl,rfl,HS56.out⟩
      ·go_wp2_with fail
       refine hK _ _ ⟨Ex.mk _ HS56.out.ext,rfl⟩ ?_
       clear hK K
       refine anyC_one (f:=0) (i:=6) (by kernel_rfl) (by decide) rfl rfl (fun K hK=>?_)
       go_wp2_with fail
       refine hK _ _ ⟨Ex.mk _ HS56.out.ext,rfl⟩ ?_
       clear hK K
       refine anyC_end (by kernel_rfl) ?_
       go_wp2_with fail
       refine NoPanic.normal ?_
       go_wp2_with fail
       go_meet
       exact⟨_,_,rfl,rfl,HS56.out⟩
     ·go_wp2_with fail
      refine hK _ _ ⟨Ex.mk _ HS54.out.ext,rfl⟩ ?_
      clear hK K
      refine anyC_one (f:=1) (i:=1) (by kernel_rfl) (by decide) rfl rfl (fun K hK=>?_)
      go_wp2_with fail
      refine (HI.out W55 HS54.out.ext).mono ?_
      rintro e W70 ⟨bi71,rfl,Si⟩
      have HS69:=zz (sep_join HS54.out Si)
      clear Si
      go_wp2_with fail
      refine hK _ _ ⟨Ex.mk _ HS69.out.ext,rfl⟩ ?_
      clear hK K
      refine anyC_one (f:=0) (i:=7) (by kernel_rfl) (by decide) rfl rfl (fun K hK=>?_)
      go_wp2_with fail
      refine hK _ _ ⟨Ex.mk _ HS69.out.ext,rfl⟩ ?_
      clear hK K
      refine anyC_end (by kernel_rfl) ?_
      go_wp2_with fail
      refine NoPanic.normal ?_
      go_wp2_with fail
      go_meet
      exact⟨_,_,rfl,rfl,HS69.out⟩
  case rest=>
   obtain⟨mi,ms,rfl,rfl,S⟩:=hcut
   have d1:=S.ext.cell c1
   have d2:=S.ext.cell c2
   have HS:=zz S
   clear S c0 c1 c2 hmm HI
   go_wp2_with fail
   have S1:=HS.out.new ((Ext.refl [] wc).alloc (.cells #[.int .i64 m0,.int .i64 m1] 24)) (oSl 24 2 (.slice (some ⟨wc.heap.size,0,none⟩) 1 1) [(m0,m1)].length (rfC [(m0,m1)]))
    ⟨rfl,.inr ⟨wc.heap.size,1,#[.int .i64 m0,.int .i64 m1],rfl,Nat.zero_le _,heap_alloc_at _,Nat.le_refl _,by decide,rfl,rfl⟩⟩ (fun q hq=>by simp [oSl,Value.ownBlock] at hq; omega)
   have HS1:=zz2 ⟨S1,(⟨by simp,fun r hr2=>by rw [List.mem_singleton.1 hr2]; exact HR0.out.2⟩:QOk L [(m0,m1)])⟩
   clear S1 d1 d2
   go_loopg [7,8] (n+1) (fun g qv iv wr=>∃ (i:Nat) (Q:List Rf),g+i=n+1∧iv=.int .i64 i∧QOk L Q∧allG L g i Q=R∧Sep W2 wr [oSl 24 2 qv Q.length (rfC Q),Mp.oMp Tryz.prog 24 mkR mi n (idxF L),Mp.oMp Tryz.prog 24 mkR ms Q.length (setF Q)])
   case atStart=>exact⟨0,[(m0,m1)],by omega,rfl,HS1.out.2,HR0.out.1,HS1.out.1⟩
   case round=>
    clear HS1
    obtain⟨i,Q,hgi,rfl,hQ,hG,S⟩:=hrel
    have hr0:wr.ownsRow 0 24 2 u7 Q.length (rfC Q):=S.get 0 rfl
    have hQl:=qok_len hQ
    rw [HH.out.2.1] at hQl
    by_cases hlt:i<Q.length
    case neg=>
     have hQR:Q=R:=by
      cases gk with
      | zero=>exact hG
      | succ g=>rw [allG,if_neg hlt] at hG; exact hG
     subst hQR
     obtain⟨qa,qc,rfl⟩:=row_slice hr0
     have HF:=zz (sep_pre (sep_head S) HX2.out)
     obtain⟨ql,hql⟩:∃ ql,Q.length=ql:=⟨_,rfl⟩
     have hnl:¬ (i:Int)<(ql:Int):=by omega
     rw [hql] at HF ⊢
     have HQq:=zz hql
     clear S hr0 hG hQ hql
     go_wp2_with fail
     go_ret
     exact⟨_,rfl,by rw [HQq.out]; exact HF.out⟩
    case pos=>
    obtain⟨g,rfl⟩:∃ g,gk=g+1:=⟨gk - 1,by omega⟩
    rw [allG,if_pos hlt] at hG
    obtain⟨qp,qc,rfl⟩:=row_form hr0 (by omega)
    obtain⟨q1,q2⟩:=rfC_at Q i hlt
    have d1:=row_cell hr0 q1
    have d2:=row_cell hr0 q2
    have hh:=hQ.2 _ (List.getElem_mem hlt)
    have hgd:Q.getD i (0,0)=Q[i]'hlt:=by rw [List.getD_eq_getElem?_getD,List.getElem?_eq_getElem hlt]; rfl
    rw [hgd] at hG
    clear q1 q2 hgd
    generalize Q[i]'hlt=r at *
    obtain⟨x,hfx⟩:=hasO_some hh
    obtain⟨hxL,hrx⟩:=findO_mem hfx
    have hwx:=HH.out.2.2.1 x hxL
    rw [show treeO L r=x.tree by rw [treeO,hfx]] at hG
    have hN:=oms_nodes (HH.out.1.ext (HX2.out.trans S.ext)) hxL
    obtain⟨tb,tc,htv⟩:=tree_slice hN
    obtain⟨kl2,hkl2⟩:=keyR (r:=r) (by rw [hrx]; exact lt_wf hwx)
    have hlook:=(S.get 1 rfl:Mp.MapAt Tryz.prog 24 mkR wr mi n (idxF L)).look lawR Tryz.underlying60 (zeroObj wr) (x:=r) hkl2
    rw [show idxF L r=some (omV x) by unfold idxF; rw [hfx]; rfl,Option.getD_some] at hlook
    have HRf:=zz (refsS_walk x.tv x.tree wr hN hwx.lt)
    have hR6:=refs_len x.tree
    have hR6w:=fun (s:Rf) (hs:s∈refsN x.tree)=>refs_wf hs
    obtain⟨r1,r2⟩:=r
    obtain⟨xnum2,xgen2,tv,xst2,xdt2,tr⟩:=x
    have htv:tv=.slice tb tr.length tc:=htv
    subst htv
    obtain⟨tn,htn⟩:∃ tn,tr.length=tn:=⟨_,rfl⟩
    dsimp only at d1 d2 HRf hR6 hG hR6w
    rw [htn] at HRf hlook
    obtain⟨R6,hR6e⟩:∃ R6,refsN tr=R6:=⟨_,rfl⟩
    rw [hR6e] at HRf hR6 hG
    rw [hR6e] at hR6w
    obtain⟨ql,hql⟩:∃ ql,Q.length=ql:=⟨_,rfl⟩
    have hltz:(i:Int)<(ql:Int):=by omega
    have HX:=zz4 ⟨S,hQ,hG,hR6w⟩
    rw [hql]
    rw [hql] at hlt hQl
    have HQL:=zz hql
    clear S hr0 hN hwx hfx hrx hxL hh hkl2 htn hR6e hQ hG hR6w hql
    have hfd:=field_tree xnum2 xgen2 tb tn tc xst2 xdt2 wr
    go_wp2_with fail
    refine HRf.out.mono ?_
    rintro e w6 ⟨v2,rfl,S6⟩
    have hr6:w6.ownsRow 0 24 2 v2 R6.length (rfC R6):=S6.get 0 rfl
    obtain⟨rb,rc,rfl⟩:=row_slice hr6
    obtain⟨K,hK⟩:∃ K,R6.length=K:=⟨_,rfl⟩
    have SJ:=sep_join HX.out.1 S6
    rw [hK] at hR6 ⊢
    rw [hK] at SJ
    have HJ:=zz SJ
    have HK:=zz hK
    clear SJ hr6 S6 hK d1 d2 hlook HRf hfd
    go_wp2_with fail
    go_loopg [7,46] K (fun g2 qv jv wx=>∃ (j:Nat) (Q2:List Rf),g2+j=K∧jv=.int .i64 j∧pushQ L Q (R6.take j)=Q2∧QOk L Q2∧Sep W2 wx [oSl 24 2 (.slice rb K rc) K (rfC R6),oSl 24 2 qv Q2.length (rfC Q2),Mp.oMp Tryz.prog 24 mkR mi n (idxF L),Mp.oMp Tryz.prog 24 mkR ms Q2.length (setF Q2)])
    case atStart=>exact⟨0,Q,by omega,rfl,rfl,HX.out.2.1,by have:=HJ.out; rw [HQL.out] at this ⊢; exact this⟩
    case round=>
     clear HJ
     obtain⟨j,Q2,hgj,rfl,hpq,hQ2,S⟩:=hrel
     have hr1:wr.ownsRow 0 24 2 u7 Q2.length (rfC Q2):=S.get 1 rfl
     by_cases hjK:j<K
     case neg=>
      obtain rfl:gk=0:=by omega
      have hjK2:j=K:=by omega
      subst hjK2
      rw [show R6.take j=R6 from List.take_of_length_le (by rw [HK.out]; omega)] at hpq
      obtain⟨qa,qc2,rfl⟩:=row_slice hr1
      have HE:=zz3 ⟨Sep.tail S,hQ2,hpq⟩
      clear S hQ2 hpq hr1
      go_wp2_with fail
      go_roundg g
      case measure=>omega
      case rel=>exact⟨i+1,Q2,by omega,by go_num,HE.out.2.1,by rw [←HE.out.2.2]; exact HX.out.2.2.1,HE.out.1⟩
     case pos=>
     obtain⟨g2,rfl⟩:∃ g2,gk=g2+1:=⟨gk - 1,by omega⟩
     have hjz:(j:Int)<(K:Int):=by omega
     have hjR:j<R6.length:=by rw [HK.out]; exact hjK
     have hr6:wr.ownsRow 0 24 2 (.slice rb K rc) R6.length (rfC R6):=by rw [HK.out]; exact S.get 0 rfl
     obtain⟨rp,rc2,he⟩:=row_form hr6 (by omega)
     rw [HK.out] at he
     cases he
     obtain⟨q1,q2⟩:=rfC_at R6 j hjR
     rw [HK.out] at hr6
     have d1:=row_cell hr6 q1
     have d2:=row_cell hr6 q2
     have htk:R6.take (j+1)=R6.take j++[R6[j]'hjR]:=by rw [List.take_succ_eq_append_getElem hjR]
     have hsw:=HX.out.2.2.2 _ (List.getElem_mem hjR)
     have hps:=pushQ_snoc L Q (R6.take j) (R6[j]'hjR)
     rw [←htk,hpq] at hps
     clear q1 q2 hr6 htk
     generalize R6[j]'hjR=s at *
     obtain⟨s1,s2⟩:=s
     dsimp only at d1 d2
     obtain⟨kl3,hkl3⟩:=keyR hsw
     have hQ2l:=qok_len hQ2
     rw [HH.out.2.1] at hQ2l
     have HSS:=zz5 ⟨S,hQ2,hps,hkl3,hpq⟩
     obtain⟨ql2,hql2⟩:∃ ql2,Q2.length=ql2:=⟨_,rfl⟩
     obtain⟨qa,qc2,rfl⟩:=row_slice hr1
     rw [hql2] at hQ2l ⊢
     have HQ2:=zz hql2
     clear S hQ2 hps hkl3 hpq hr1 hql2 hsw
     go_upto_region 12 with (fail)
     obtain⟨W,hW⟩:∃ W,wr.alloc (Obj.cells #[.int .i64 s1,.int .i64 s2] 24)=W:=⟨_,rfl⟩
     have hxW:Ext [] wr W:=by rw [←hW]; exact (Ext.refl [] wr).alloc _
     have hbB:W.heap[wr.heap.size]? = some (.cells #[.int .i64 s1,.int .i64 s2] 24 (0,0)):=by rw [←hW]; exact heap_alloc_at _
     rw [hW]
     obtain⟨p,hp⟩:∃ p,wr.heap.size=p:=⟨_,rfl⟩
     rw [hp] at hbB ⊢
     have hlt3:=(HSS.out.1.get 3 rfl:Mp.MapAt Tryz.prog 24 mkR wr ms Q2.length (setF Q2)).lt
     have hpm:p≠ms:=by omega
     have SW:=HSS.out.1.quiet hxW
     have hlook:=(SW.get 2 rfl:Mp.MapAt Tryz.prog 24 mkR W mi n (idxF L)).look_ok lawR Tryz.underlying60 (zeroObj W) (x:=(s1,s2)) HSS.out.2.2.2.1
     have k0:=cellOf hbB 0
     have k1:=cellOf hbB 1
     have HW:=zz2 ⟨SW,hbB⟩
     clear hW hxW hbB hp SW d1 d2 hlt3
     cases hfs:findO L (s1,s2) with
     | none=>
      rw [show idxF L (s1,s2)=none by unfold idxF; rw [hfs]; rfl,Option.getD_none,Option.isSome_none] at hlook
      have hno:hasO L (s1,s2)=false:=by rw [hasO,hfs]; rfl
      have hp2:=HSS.out.2.2.1
      rw [hno,if_neg (by simp)] at hp2
      have HP:=zz hp2
      clear hfs hno hp2
      go_wp2_with fail
      go_roundg g2
      case measure=>omega
      case rel=>exact⟨j+1,Q2,by omega,by go_num,HP.out,HSS.out.2.1,by have:=HW.out.1.quiet ((Ext.refl [] W).alloc (.cells #[.int .i64 0,.int .i64 0,.slice none 0 0,.bool false,.string ⟨#[]⟩] 35)); rw [HQ2.out] at this ⊢; exact this⟩
     | some y=>
      obtain⟨yb,yc,hyv⟩:=oms_tv HH.out.1 (findO_mem hfs).1
      rw [show idxF L (s1,s2)=some (omV y) by unfold idxF; rw [hfs]; rfl,Option.getD_some,Option.isSome_some] at hlook
      have hyes:hasO L (s1,s2)=true:=by rw [hasO,hfs]; rfl
      have hp2:=HSS.out.2.2.1
      rw [hyes] at hp2
      obtain⟨ynum,ygen,ytv,yst,ydt,ytr⟩:=y
      have hyv:ytv=.slice yb ytr.length yc:=hyv
      subst hyv
      obtain⟨yn,hyn⟩:∃ yn,ytr.length=yn:=⟨_,rfl⟩
      rw [hyn] at hlook
      clear hfs hyes hyn
      go_upto_region 13 with (fail)
      obtain⟨W3,hW3⟩:∃ W3,W.alloc (Obj.cells #[.int .i64 ynum,.int .i64 ygen,.slice yb yn yc,.bool yst,.string ydt] 35)=W3:=⟨_,rfl⟩
      have hx3:Ext [] W W3:=by rw [←hW3]; exact (Ext.refl [] W).alloc _
      rw [hW3]
      have k0:=hx3.cell k0
      have k1:=hx3.cell k1
      have S3:=HW.out.1.quiet hx3
      have hM3:Mp.MapAt Tryz.prog 24 mkR W3 ms Q2.length (setF Q2):=S3.get 3 rfl
      have hlook2:=hM3.look lawR Tryz.underlying91 (zeroBoolR W3) (x:=(s1,s2)) HSS.out.2.2.2.1
      have HS3:=zz3 ⟨S3,hM3,hx3.keep HW.out.2 (by simp)⟩
      clear hW3 hx3 S3 hM3 hlook HW
      by_cases hin:(s1,s2)∈Q2
      ·rw [show setF Q2 (s1,s2)=some (.bool true) by rw [setF,if_pos hin],Option.getD_some] at hlook2
       rw [if_neg (by simp [hin])] at hp2
       have HP:=zz hp2
       clear hin hp2
       go_wp2_with fail
       go_roundg g2
       case measure=>omega
       case rel=>exact⟨j+1,Q2,by omega,by go_num,HP.out,HSS.out.2.1,by have:=HS3.out.1; rw [HQ2.out] at this ⊢; exact this⟩
      ·rw [show setF Q2 (s1,s2)=none by rw [setF,if_neg hin],Option.getD_none] at hlook2
       rw [if_pos ⟨rfl,hin⟩] at hp2
       have hQ3:=pushQ_ok L (R6.take (j+1)) Q HX.out.2.1
       rw [hp2] at hQ3
       have HP:=zz2 ⟨hp2,hQ3⟩
       clear hin hp2 hQ3
       go_upto_region 15 with (first | (at_mapUpdate; refine Mp.wpList_store_mp rfl _ _ _ 91 rfl 4 lawR mkR_inj Tryz.underlying91 rfl HS3.out.2.1 (by rw [HQ2.out]; unfold maxLen; omega) (s1,s2) (.bool true) kl3 rfl rfl HSS.out.2.2.2.1 ?_; intro w8 hm8 hx8; rw [setF_more] at hm8; have S8:=HS3.out.1.upd 3 (Mp.oMp Tryz.prog 24 mkR ms (Q2++[(s1,s2)]).length (setF (Q2++[(s1,s2)]))) rfl hx8 (Fr.refl _ _) (by rw [List.length_append]; exact hm8); have hb8:=hx8.keep HS3.out.2.2 (by simpa using hpm); have HS8:=zz2 ⟨S8,hb8⟩; clear S8 hm8 hx8 hb8 k0 k1))
       have k0:=cellOf HS8.out.2 0
       have k1:=cellOf HS8.out.2 1
       have hr8:w8.ownsRow 0 24 2 (.slice qa ql2 qc2) ql2 (rfC Q2):=by have:=HS8.out.1.get 1 rfl; rw [HQ2.out] at this; exact this
       have HA:=zz2 ⟨HS8.out.1,hr8⟩
       clear hr8 hlook2
       go_wp2_with (first | (at_builtin; refine wpList_append_lies _ rfl _ _ 36 rfl 0 24 j0 _ 2 16 Tryz.underlying36 hjf hy0 hy1 hy2 rfl (by decide) (.slice qa ql2 qc2) ql2 _ rfl (World.ownsRow.alloc HA.out.2 _) ⟨w8.heap.size,0,none⟩ 1 1 [.int .i64 s1,.int .i64 s2] rfl rfl (cells_two9 _ _ _ _) (by simp [Value.oneCell']) (by decide) (by unfold maxLen; omega) (by omega) (by omega) (w8.heap.size+1) (by simp) ?_; intro g6 cap2 w9 hown1 hgrow hat6 hlt6))
       have Pl:=push_local (cap:=cap2) (n:=ql2+1) hgrow hat6
       have hl1:(Q2++[(s1,s2)]).length=ql2+1:=by rw [List.length_append,HQ2.out]; rfl
       have S9:=HA.out.1.upd 1 (oSl 24 2 (.slice (some ⟨g6,0,none⟩) (ql2+1) cap2) (Q2++[(s1,s2)]).length (rfC (Q2++[(s1,s2)]))) rfl (by rw [HQ2.out]; exact Pl.1) (by rw [HQ2.out]; exact Pl.2) (by
        show World.ownsRow _ 0 24 2 _ _ _
        rw [hl1,rfC_append]
        exact hown1)
       go_roundg g2
       case measure=>omega
       case rel=>exact⟨j+1,Q2++[(s1,s2)],by omega,by go_num,HP.out.1,HP.out.2,S9⟩
end Rc
end Go.Proofs.YtljachhmdogkdaaGreatDoor
