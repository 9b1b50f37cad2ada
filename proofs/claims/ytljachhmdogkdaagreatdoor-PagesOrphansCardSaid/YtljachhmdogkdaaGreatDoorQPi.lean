/-
 Texts PnI, as far as the statement needs them.
-/
import Derived.Test.YtljachhmdogkdaaGreatDoorQRdA
import Derived.Deep.Strs
import Derived.Deep.Slices
import Derived.OpenShut
import Derived.ChangeArms
set_option maxRecDepth 100000
set_option maxHeartbeats 64000000
namespace Go.Proofs.YtljachhmdogkdaaGreatDoor
namespace Pg
open Go.RowKit
open Go.ChangeShapes Go.WideShapes
open Tr
open Rc
theorem cellsInt28:Tryz.prog.cellsOf 3=1:=by kernel_rfl
theorem cellsI6428:Tryz.prog.cellsOf 2=1:=by kernel_rfl
theorem cellsStr28:Tryz.prog.cellsOf 9=1:=by kernel_rfl
theorem cellsBool28:Tryz.prog.cellsOf 4=1:=by kernel_rfl
theorem cellsInts28:Tryz.prog.cellsOf 39=1:=by kernel_rfl
theorem cellsNodes28:Tryz.prog.cellsOf 31=1:=by kernel_rfl
theorem cellsNode28:Tryz.prog.cellsOf 41=5:=by kernel_rfl
theorem cellsObj28:Tryz.prog.cellsOf 35=5:=by kernel_rfl
theorem cellsObjs28:Tryz.prog.cellsOf 22=1:=by kernel_rfl
theorem cellsRef28:Tryz.prog.cellsOf 24=2:=by kernel_rfl
theorem cellsGraph28:Tryz.prog.cellsOf 26=3:=by kernel_rfl
section
variable {H:Type} {enc:TypeId×Value→H} {w:World} {base:Nat} {sp:Nat→Bool} {held:Bool}
theorem trod_five {P:Program} {t:TypeId} {f0 f1 f2 f3 f4:Field} {fuel:Nat} {cs:List Value} {x:DataW H×List MemPlace} (ht:P.underlying t=some (.struct #[f0,f1,f2,f3,f4])) (h:DataW.trod enc P w base sp held fuel t cs=some x) :
  ∃ y0 y1 y2 y3 y4 n,cs.length=P.cellsOf t∧DataW.trod enc P w base sp held n f0.type ((cs.drop f0.offset).take (P.cellsOf f0.type))=some y0∧
   DataW.trod enc P w base sp held n f1.type ((cs.drop f1.offset).take (P.cellsOf f1.type))=some y1∧DataW.trod enc P w base sp held n f2.type ((cs.drop f2.offset).take (P.cellsOf f2.type))=some y2∧
   DataW.trod enc P w base sp held n f3.type ((cs.drop f3.offset).take (P.cellsOf f3.type))=some y3∧DataW.trod enc P w base sp held n f4.type ((cs.drop f4.offset).take (P.cellsOf f4.type))=some y4:=by
 obtain⟨xs,n,_,rfl,hl,hlen,hf⟩:=DataW.trod_struct ht h
 match xs,hlen with
 | [y0,y1,y2,y3,y4],_=>exact⟨y0,y1,y2,y3,y4,n,hl,by simpa using hf 0 f0 rfl,by simpa using hf 1 f1 rfl,by simpa using hf 2 f2 rfl,by simpa using hf 3 f3 rfl,by simpa using hf 4 f4 rfl⟩
theorem ad28 (b o k:Nat):(⟨b,o,none⟩:Addr).add k=⟨b,o+k,none⟩:=by unfold Addr.add; split <;> simp_all
theorem open_kids28 {fuel:Nat} {cs:List Value} {x:DataW H×List MemPlace} (hf:DataW.trod enc Tryz.prog w base sp held fuel 39 cs=some x) :
  ∃ kb kc K,cs=[.slice kb K.length kc]∧K.length≤maxLen∧IntsAt w kb K∧∀ q∈K,-9223372036854775808≤q∧q≤9223372036854775807:=by
 rcases Go.Deep.open_slice Tryz.underlying39 hf with ⟨hc,_⟩ | ⟨a,len,cap,m,n,D,Pl,hc,_,hl,hm,hmm,_,hx⟩
 ·exact⟨none,0,[],hc,by unfold maxLen; simp,fun i hi=>(by cases hi),by simp⟩
 ·have hlm:len≤m:=by rw [hmm]; split <;> omega
  have each:∀ i,i<len→∃ q:Int,w.cell? (a.add i)=some (.int .i64 q)∧-9223372036854775808≤q∧q≤9223372036854775807:=by
   intro i hi
   obtain⟨cs',h1,h2⟩:=hx i (by omega)
   rw [cellsInt28,Nat.mul_one] at h1
   obtain⟨_,hlen,hcell⟩:=World.cells?_some h1
   match cs',hlen with
   | [v0],_=>
    have e0:=hcell 0 (by omega)
    obtain⟨q,hq,_,hw⟩:=DataW.trod_int Tryz.underlying3 h2
    simp only [List.cons.injEq,and_true] at hq
    subst hq
    exact⟨q,by rw [show (a.add i).add 0=a.add i from by simp [Addr.add]] at e0; simpa using e0,Kt.wf_i64 hw⟩
  obtain⟨f,hf⟩:=Go.Deep.choose_lt each
  have hfl:((List.range len).map f).length=len:=by simp
  refine⟨some a,cap,(List.range len).map f,by rw [hfl]; exact hc,by rw [hfl]; omega,fun i hi=>?_,fun q hq=>?_⟩
  ·rw [hfl] at hi
   have hspot:a.spot=none:=by simpa [Addr.add] using World.cell?_spot (hf 0 (by omega)).1
   obtain⟨b,off,sp0⟩:=a
   obtain rfl:sp0=none:=hspot
   have h0:=(hf i hi).1
   rw [ad28] at h0
   exact⟨b,off,rfl,by rw [h0]; simp⟩
  ·obtain⟨i,hi,rfl⟩:=List.mem_map.1 hq
   exact (hf i (List.mem_range.1 hi)).2
instance:Inhabited Nd:=⟨⟨0,0,0,⟨#[]⟩,[]⟩⟩
instance:Inhabited Om:=⟨⟨0,0,.slice none 0 0,false,⟨#[]⟩,[]⟩⟩
theorem open_tree28 {fuel:Nat} {cs:List Value} {x:DataW H×List MemPlace} (hf:DataW.trod enc Tryz.prog w base sp held fuel 31 cs=some x) :
  ∃ kb kc l,cs=[.slice kb l.length kc]∧NodesAt w (.slice kb l.length kc) l∧l.length≤9223372036854775807:=by
 rcases Go.Deep.open_slice Tryz.underlying31 hf with ⟨hc,_⟩ | ⟨a,len0,cap0,m,n,D,Pl,hc,_,hl,hm,hmm,_,hx⟩
 ·exact⟨none,0,[],hc,⟨none,0,rfl,Nat.le_refl _,fun i hi=>(by cases hi)⟩,by simp⟩
 ·have hlm:len0≤m:=by rw [hmm]; split <;> omega
  have each:∀ i,i<len0→∃ q:Nd,w.cell? (a.add (i*5))=some (.int .i64 q.kind)∧w.cell? ((a.add (i*5)).add 1)=some (.int .i64 q.n)∧w.cell? ((a.add (i*5)).add 2)=some (.int .i64 q.gen)∧w.cell? ((a.add (i*5)).add 3)=some (.string q.s)∧NdWf q∧∃ kb kc,w.cell? ((a.add (i*5)).add 4)=some (.slice kb q.kids.length kc)∧IntsAt w kb q.kids:=by
   intro i hi
   obtain⟨cs',h1,h2⟩:=hx i (by omega)
   rw [cellsNode28] at h1
   obtain⟨_,hlen,hcell⟩:=World.cells?_some h1
   obtain⟨y0,y1,y2,y3,y4,k,_,g0,g1,g2,g3,g4⟩:=trod_five Tryz.underlying41 h2
   match cs',hlen with
   | [v0,v1,v2,v3,v4],_=>
    have e0:=hcell 0 (by omega)
    have e1:=hcell 1 (by omega)
    have e2:=hcell 2 (by omega)
    have e3:=hcell 3 (by omega)
    have e4:=hcell 4 (by omega)
    simp [cellsInt28,cellsI6428,cellsStr28,cellsInts28] at g0 g1 g2 g3 g4
    obtain⟨kd,hkd,_,_⟩:=DataW.trod_int Tryz.underlying3 g0
    obtain⟨nn,hnn,_,hnw⟩:=DataW.trod_int Tryz.underlying2 g1
    obtain⟨gn,hgn,_,_⟩:=DataW.trod_int Tryz.underlying3 g2
    obtain⟨s,hs,_,hsw⟩:=DataW.trod_string Tryz.underlying9 g3
    obtain⟨kb,kc,K,hk,hkl,hkI,hkw⟩:=open_kids28 g4
    simp only [List.cons.injEq,and_true] at hkd hnn hgn hs hk
    subst hkd hnn hgn hs hk
    unfold maxLen at hsw hkl
    exact⟨⟨kd,nn,gn,s,K⟩,by rw [show (a.add (i*5)).add 0=a.add (i*5) from by simp [Addr.add]] at e0; simpa using e0,by simpa using e1,by simpa using e2,by simpa using e3,⟨Kt.wf_i64 hnw,by show s.size≤_; omega,by show K.length≤_; omega,hkw⟩,kb,kc,by simpa using e4,hkI⟩
  obtain⟨f,hf⟩:=Go.Deep.choose_lt each
  have hfl:((List.range len0).map f).length=len0:=by simp
  refine⟨some a,cap0,(List.range len0).map f,by rw [hfl]; exact hc,⟨some a,cap0,by rw [hfl],by rw [hfl]; exact hl,fun i hi=>?_⟩,by rw [hfl]; unfold maxLen at hm; omega⟩
  rw [hfl] at hi
  have hspot:a.spot=none:=by simpa [Addr.add] using World.cell?_spot (hf 0 (by omega)).1
  obtain⟨b,off,sp0⟩:=a
  obtain rfl:sp0=none:=hspot
  obtain⟨h0,h1,h2,h3,h4,kb,kc,h5,h6⟩:=hf i hi
  simp only [ad28] at h0 h1 h2 h3 h5
  refine⟨b,off,rfl,?_⟩
  rw [List.getElem_map,List.getElem_range]
  exact⟨h0,h1,h2,h3,h4,kb,kc,h5,h6⟩
structure OmArg (x:Om):Prop where
 num : -9223372036854775808≤x.num∧x.num≤9223372036854775807
 gen : -9223372036854775808≤x.gen∧x.gen≤9223372036854775807
 len:x.tree.length≤9223372036854775807
theorem open_objs28 {fuel:Nat} {cs:List Value} {x:DataW H×List MemPlace} (hf:DataW.trod enc Tryz.prog w base sp held fuel 22 cs=some x) :
  ∃ kb kc L,cs=[.slice kb L.length kc]∧OmsAt w (.slice kb L.length kc) L∧L.length≤9223372036854775807∧∀ x∈L,OmArg x:=by
 rcases Go.Deep.open_slice Tryz.underlying22 hf with ⟨hc,_⟩ | ⟨a,len0,cap0,m,n,D,Pl,hc,_,hl,hm,hmm,_,hx⟩
 ·exact⟨none,0,[],hc,⟨none,0,rfl,Nat.le_refl _,fun i hi=>(by cases hi)⟩,by simp,fun x hx=>(by cases hx)⟩
 ·have hlm:len0≤m:=by rw [hmm]; split <;> omega
  have each:∀ i,i<len0→∃ q:Om,w.cell? (a.add (i*5))=some (.int .i64 q.num)∧w.cell? ((a.add (i*5)).add 1)=some (.int .i64 q.gen)∧w.cell? ((a.add (i*5)).add 2)=some q.tv∧w.cell? ((a.add (i*5)).add 3)=some (.bool q.stream)∧w.cell? ((a.add (i*5)).add 4)=some (.string q.data)∧NodesAt w q.tv q.tree∧OmArg q:=by
   intro i hi
   obtain⟨cs',h1,h2⟩:=hx i (by omega)
   rw [cellsObj28] at h1
   obtain⟨_,hlen,hcell⟩:=World.cells?_some h1
   obtain⟨y0,y1,y2,y3,y4,k,_,g0,g1,g2,g3,g4⟩:=trod_five Tryz.underlying35 h2
   match cs',hlen with
   | [v0,v1,v2,v3,v4],_=>
    have e0:=hcell 0 (by omega)
    have e1:=hcell 1 (by omega)
    have e2:=hcell 2 (by omega)
    have e3:=hcell 3 (by omega)
    have e4:=hcell 4 (by omega)
    simp [cellsInt28,cellsNodes28,cellsBool28,cellsStr28] at g0 g1 g2 g3 g4
    obtain⟨nn,hnn,_,hnw⟩:=DataW.trod_int Tryz.underlying3 g0
    obtain⟨gn,hgn,_,hgw⟩:=DataW.trod_int Tryz.underlying3 g1
    obtain⟨kb,kc,K,hk,hkN,hkl⟩:=open_tree28 g2
    obtain⟨st,hst,_⟩:=DataW.trod_bool Tryz.underlying4 g3
    obtain⟨s,hs,_,hsw⟩:=DataW.trod_string Tryz.underlying9 g4
    simp only [List.cons.injEq,and_true] at hnn hgn hk hst hs
    subst hnn hgn hk hst hs
    exact⟨⟨nn,gn,.slice kb K.length kc,st,s,K⟩,by rw [show (a.add (i*5)).add 0=a.add (i*5) from by simp [Addr.add]] at e0; simpa using e0,by simpa using e1,by simpa using e2,by simpa using e3,by simpa using e4,hkN,Kt.wf_i64 hnw,Kt.wf_i64 hgw,hkl⟩
  obtain⟨f,hf⟩:=Go.Deep.choose_lt each
  have hfl:((List.range len0).map f).length=len0:=by simp
  refine⟨some a,cap0,(List.range len0).map f,by rw [hfl]; exact hc,⟨some a,cap0,by rw [hfl],by rw [hfl]; exact hl,fun i hi=>?_⟩,by rw [hfl]; unfold maxLen at hm; omega,fun x hx=>?_⟩
  ·rw [hfl] at hi
   have hspot:a.spot=none:=by simpa [Addr.add] using World.cell?_spot (hf 0 (by omega)).1
   obtain⟨b,off,sp0⟩:=a
   obtain rfl:sp0=none:=hspot
   obtain⟨h0,h1,h2,h3,h4,h5,-⟩:=hf i hi
   simp only [ad28] at h0 h1 h2 h3 h4
   refine⟨b,off,rfl,?_⟩
   rw [List.getElem_map,List.getElem_range]
   exact⟨h0,h1,h2,h3,h4,h5⟩
  ·obtain⟨i,hi,rfl⟩:=List.mem_map.1 hx
   exact (hf i (List.mem_range.1 hi)).2.2.2.2.2.2
end
def GraphArg (w:World) (v:Value):Prop:=∃ sl L m0 m1,v=.agg #[sl,.int .i64 m0,.int .i64 m1]∧OmsAt w sl L∧L.length≤9223372036854775807∧(∀ x∈L,OmArg x)∧RfWf (m0,m1)
theorem open_graph {H:Type} {enc:TypeId×Value→H} {w:World} {base:Nat} {sp:Nat→Bool} {held:Bool} {r:Reach} {b0:Nat} {v:Value} {d:DataW H} {ps:List MemPlace} (hval:Value.okWide Tryz.prog w r b0 26 v) (hd:DataW.Trod enc Tryz.prog w base sp held 26 v d ps) :
  GraphArg w v:=by
 obtain⟨cs,rfl,hsz⟩:=okWide_struct Tryz.underlying26 hval
 obtain⟨fuel,hf⟩:=hd
 rw [cellsGraph28] at hsz
 obtain⟨c0,c1,c2,rfl⟩:∃ c0 c1 c2,cs=#[c0,c1,c2]:=by
  obtain⟨l⟩:=cs
  match l,hsz with
  | [c0,c1,c2],_=>exact⟨c0,c1,c2,rfl⟩
 simp only [Value.cells] at hf
 obtain⟨y0,y1,n,-,-,g0,g1⟩:=trod_struct2 Tryz.underlying26 hf
 simp [cellsObjs28,cellsRef28] at g0 g1
 obtain⟨z0,z1,n2,-,-,g2,g3⟩:=trod_struct2 Tryz.underlying24 g1
 simp [cellsInt28] at g2 g3
 obtain⟨kb,kc,L,hk,hO,hl,hA⟩:=open_objs28 g0
 obtain⟨m0,h0,_,w0⟩:=DataW.trod_int Tryz.underlying3 g2
 obtain⟨m1,h1,_,w1⟩:=DataW.trod_int Tryz.underlying3 g3
 simp only [List.cons.injEq,and_true] at hk h0 h1
 subst hk h0 h1
 exact⟨_,L,m0,m1,rfl,hO,hl,hA,Kt.wf_i64 w0,Kt.wf_i64 w1⟩
end Pg
end Go.Proofs.YtljachhmdogkdaaGreatDoor
