/-
 Texts TuF, TtV, TtW, TtX, TtY, TtZ, TuA, TuB, TuC, TuE, TuG, as far as the statement needs them.
-/
import Derived.Test.YtljachhmdogkdaaGreatDoorQTa
import Derived.Test.YtljachhmdogkdaaGreatDoorQPkX
import Derived.Test.YtljachhmdogkdaaGreatDoorQPkZ
import Derived.Test.YtljachhmdogkdaaGreatDoorQTs
set_option maxRecDepth 100000
set_option maxHeartbeats 64000000
namespace Go.Proofs.YtljachhmdogkdaaGreatDoor
namespace Tr
open Go.RowKit
theorem rises_names {l:List Nd}:∀ (K:List Int) (p:Option ByteArray),K.length % 2=0→risesN l p K=true→
  ((evensN K).map (fun k=>(ndAt l k).s)).Pairwise ltB∧∀ s,p=some s→∀ t∈(evensN K).map (fun k=>(ndAt l k).s),ltB s t
 | [],p,_,_=>by simp [evensN]
 | [k],p,he,_=>by simp at he
 | k::m::r,p,he,h=>by
  rw [risesN,Bool.and_eq_true,Bool.and_eq_true] at h
  obtain⟨⟨-,h2⟩,h3⟩:=h
  obtain⟨i1,i2⟩:=rises_names r _ (by simp only [List.length_cons] at he; omega) h3
  rw [evensN,List.map_cons]
  refine⟨List.pairwise_cons.2 ⟨fun t ht=>i2 _ rfl t ht,i1⟩,fun s hs t ht=>?_⟩
  subst hs
  rw [belowN] at h2
  rcases List.mem_cons.1 ht with rfl | ht
  ·exact h2
  ·exact ltB_trans h2 (i2 _ rfl t ht)
theorem dict_names {l:List Nd} (h:isN l 8=true):(namesN l).Pairwise ltB:=by
 obtain⟨hc,hk⟩:=is_facts h
 obtain⟨h0,hn,E,D,hsh,hm,hall⟩:=check_zero hc
 have e:=ndAt_nat l 0 h0
 rw [show ((0:Nat):Int)=0 from rfl] at e
 have hx:=List.all_eq_true.1 hall _ (List.getElem_mem h0)
 rw [←e,nodeOk,hk] at hx
 rw [namesN,if_pos h]
 have hr:risesN l none (ndAt l 0).kids=true:=by
  have:(bareN (ndAt l 0)&&(false||(decide ((ndAt l 0).kids.length % 2=0)&&risesN l none (ndAt l 0).kids)))=true:=hx
  simp only [Bool.false_or,Bool.and_eq_true] at this
  exact this.2.2
 exact (rises_names _ none (root_even h) hr).1
def linF (l:List Nd) (s:ByteArray):List Int→Option Int
 | k::m::r=>if (ndAt l k).s=s then some m else linF l s r
 | _=>none
theorem lin_none {l:List Nd} {s:ByteArray}:∀ K:List Int,s∉(evensN K).map (fun k=>(ndAt l k).s)→linF l s K=none
 | [],_=>rfl
 | [_],_=>rfl
 | k::m::r,h=>by
  rw [evensN,List.map_cons,List.mem_cons,not_or] at h
  rw [linF,if_neg (fun e=>h.1 e.symm),lin_none r h.2]
theorem lin_at {l:List Nd} {s:ByteArray}:∀ (K:List Int) (i:Nat),K.length % 2=0→((evensN K).map (fun k=>(ndAt l k).s))[i]? = some s→(∀ j,j<i→((evensN K).map (fun k=>(ndAt l k).s))[j]?≠some s)→linF l s K=K[2*i+1]?
 | [],i,_,h,_=>by simp [evensN] at h
 | [_],_,he,_,_=>by simp at he
 | k::m::r,0,_,h,_=>by
  rw [evensN,List.map_cons,List.getElem?_cons_zero] at h
  rw [linF,if_pos (Option.some.inj h)]
  rfl
 | k::m::r,i+1,he,h,hn=>by
  have h0:=hn 0 (by omega)
  rw [evensN,List.map_cons] at h h0 hn
  rw [List.getElem?_cons_succ] at h
  rw [List.getElem?_cons_zero] at h0
  rw [linF,if_neg (fun e=>h0 (by rw [e])),lin_at r i (by simp only [List.length_cons] at he; omega) h (fun j hj=>by
   have:=hn (j+1) (by omega)
   rw [List.getElem?_cons_succ] at this
   exact this),show 2*(i+1)+1=(2*i+1)+1+1 by omega,List.getElem?_cons_succ,List.getElem?_cons_succ]
theorem evens_half:∀ (K:List Int) (i:Nat),i<(evensN K).length→K.length % 2=0→2*i+1<K.length
 | [],i,h,_=>by simp [evensN] at h
 | [_],_,_,he=>by simp at he
 | k::m::r,0,_,_=>by simp
 | k::m::r,i+1,h,he=>by
  rw [evensN,List.length_cons] at h
  have:=evens_half r i (by omega) (by simp only [List.length_cons] at he; omega)
  simp only [List.length_cons]
  omega
theorem get_doc {l:List Nd} {s:ByteArray} (h:isN l 8=true):getN l s=(linF l s (ndAt l 0).kids).map (fun m=>subN l m.toNat):=by
 have hnm:namesN l=(evensN (ndAt l 0).kids).map (fun k=>(ndAt l k).s):=by rw [namesN,if_pos h]
 have hup:=dict_names h
 by_cases hs:s∈namesN l
 ·obtain⟨i,hi⟩:=List.getElem?_of_mem hs
  obtain⟨h1,h2⟩:=find_at hup hi
  have hlt:=(List.getElem?_eq_some_iff.1 hi).1
  have hev:=root_even h
  have h3:linF l s (ndAt l 0).kids=(ndAt l 0).kids[2*i+1]?:=lin_at _ i hev (by rw [←hnm]; exact hi) (fun j hj e=>by
   rw [←hnm] at e
   obtain⟨hj1,hj2⟩:=List.getElem?_eq_some_iff.1 e
   obtain⟨hi1,hi2⟩:=List.getElem?_eq_some_iff.1 hi
   have:=List.pairwise_iff_getElem.1 hup j i hj1 hi1 hj
   rw [hj2,hi2] at this
   exact ltB_irrefl _ this)
  have h4:2*i+1<(ndAt l 0).kids.length:=evens_half _ i (by rw [hnm,List.length_map] at hlt; exact hlt) hev
  rw [getN,h2,h1,if_pos rfl,h3,List.getElem?_eq_getElem h4,List.getD_eq_getElem?_getD,List.getElem?_eq_getElem h4]
  rfl
 ·rw [getN,find_none hs,lin_none _ (by rw [←hnm]; exact hs)]
  rfl
theorem plain_walk (x:Nd) (hw:NdWf x) (hs:x.s.size≤1000000) (base:Option Addr) (cap:Nat) (w:World) :
  Calls Tryz.prog 78 #[.agg #[.int .i64 x.kind,.int .i64 x.n,.int .i64 x.gen,.string x.s,.slice base x.kids.length cap]] w fun e w'=>e=.returned (.bool (bareN x))∧Ext [] w w':=by
 obtain⟨k,n,gen,s,L⟩:=x
 have h0:=hw.n
 simp only at h0 hs ⊢
 by_cases k1:k=1
 ·subst k1; exact plain_1 n gen s L base cap w
 by_cases k2:k=2
 ·subst k2; exact plain_2 n gen s L base cap w
 by_cases k3:k=3
 ·subst k3; exact plain_3 n gen s L base cap h0.1 h0.2 w
 by_cases k4:k=4
 ·subst k4; exact plain_4 n gen s L base cap hs w
 by_cases k5:k=5
 ·subst k5; exact plain_5 n gen s L base cap w
 by_cases k6:k=6
 ·subst k6; exact plain_6 n gen s L base cap w
 by_cases k7:k=7
 ·subst k7; exact plain_7 n gen s L base cap w
 by_cases k8:k=8
 ·subst k8; exact plain_8 n gen s L base cap w
 by_cases k9:k=9
 ·subst k9; exact plain_9 n gen s L base cap w
 exact plain_x k (by omega) n gen s L base cap w
def rvC (L:List Nat):List Value:=L.reverse.map fun a=>.int .i64 (a:Nat)
theorem rvC_len (L:List Nat):(rvC L).length=L.length:=by simp [rvC]
theorem rvC_cons (a:Nat) (L:List Nat):rvC (a::L)=rvC L++[.int .i64 (a:Nat)]:=by simp [rvC]
def oRv (v:Value) (L:List Nat):Ob:=oSl 3 1 v L.length (rvC L)
theorem rv_top {w:World} {v:Value} {a:Nat} {L:List Nat} (h:(oRv v (a::L)).P w) :
  ∃ g cap,v=.slice (some ⟨g,0,none⟩) (L.length+1) cap∧w.cell? ⟨g,L.length,none⟩=some (.int .i64 (a:Nat))∧w.frozen? ⟨g,L.length,none⟩=false∧L.length+1≤cap:=by
 have h:w.ownsRow 0 3 1 v (L.length+1) (rvC (a::L)):=h
 obtain⟨g,cap,rfl⟩:=row_form h (by omega)
 have hc:=row_le h
 rw [rvC_cons] at h
 refine⟨g,cap,rfl,row_cell h ?_,row_free h _,hc⟩
 rw [List.getElem?_append_right (by rw [rvC_len]; omega),rvC_len,Nat.sub_self]
 rfl
theorem rv_put {w:World} {g cap a b:Nat} {L:List Nat} (h:(oRv (.slice (some ⟨g,0,none⟩) (L.length+1) cap) (a::L)).P w) :
  (oRv (.slice (some ⟨g,0,none⟩) (L.length+1) cap) (b::L)).P (w.setCell ⟨g,L.length,none⟩ (.int .i64 (b:Nat))):=by
 have h:w.ownsRow 0 3 1 (.slice (some ⟨g,0,none⟩) (L.length+1) cap) (L.length+1) (rvC (a::L)):=h
 have h2:=row_put (i:=L.length) h (.int .i64 (b:Nat))
 have e:(rvC (a::L)).set L.length (.int .i64 (b:Nat))=rvC (b::L):=by
  rw [rvC_cons,rvC_cons,List.set_append_right _ _ (by rw [rvC_len]; omega),rvC_len,Nat.sub_self]
  rfl
 rw [e] at h2
 exact h2
theorem rv_pop {w:World} {g cap a:Nat} {L:List Nat} (h:(oRv (.slice (some ⟨g,0,none⟩) (L.length+1) cap) (a::L)).P w):(oRv (.slice (some ⟨g,0,none⟩) L.length cap) L).P w:=by
 have h:w.ownsRow 0 3 1 (.slice (some ⟨g,0,none⟩) (L.length+1) cap) (L.length+1) (rvC (a::L)):=h
 have h2:=row_less h (Nat.le_succ L.length)
 have e:(rvC (a::L)).take (L.length*1)=rvC L:=by rw [rvC_cons,Nat.mul_one,←rvC_len L,List.take_left']; rfl
 rw [e] at h2
 exact h2
def frOk (l:List Nd) (T:List Fm):Prop:=∀ p∈T,p.2≤(kidsAt l p.1).length
theorem frOk.come {l:List Nd} {i:Nat} {T T2:List Fm} (h:frOk l T) (hc:comeN l i T=some T2):frOk l T2:=by
 obtain _ | ⟨⟨a,k⟩,T⟩:=T
 ·rw [comeN] at hc
  split at hc
  ·cases hc
  ·obtain rfl:=Option.some.inj hc
   exact h
 ·rw [comeN] at hc
  split at hc
  ·split at hc
   ·rename_i hk
    obtain rfl:=Option.some.inj hc
    intro p hp
    rcases List.mem_cons.1 hp with rfl | hp
    ·have:=(List.getElem?_eq_some_iff.1 hk).1
     exact this
    ·exact h p (List.mem_cons_of_mem _ hp)
   ·cases hc
  ·obtain rfl:=Option.some.inj hc
   exact h
theorem frOk.push {l:List Nd} {i:Nat} {T:List Fm} (h:frOk l T):frOk l ((i,0)::T):=fun p hp=>by
 rcases List.mem_cons.1 hp with rfl | hp
 ·exact Nat.zero_le _
 ·exact h p hp
def firsts (T:List Fm):List Nat:=T.map (·.1)
def nexts (T:List Fm):List Nat:=T.map (·.2)
theorem firsts_len (T:List Fm):(firsts T).length=T.length:=by simp [firsts]
theorem nexts_len (T:List Fm):(nexts T).length=T.length:=by simp [nexts]
theorem ends_walk (v:Value) (l:List Nd) (w:World) (h:NodesAt w v l) (hl:l.length≤65536) :
  Calls Tryz.prog 77 #[v] w fun e w'=>∃ ev dv,e=.returned (.tuple #[ev,dv,.bool (shapeN l).isSome])∧Ext [] w w'∧ShapeIs (shapeN l) ev dv w':=by
 obtain⟨Y,hY⟩:∃ Y,shapeN l=Y:=⟨_,rfl⟩
 obtain⟨B,hB⟩:∃ B,Y.isSome=B:=⟨_,rfl⟩
 obtain⟨i0,hif,hz0,hz1,hz2⟩:=info_parts infoInt
 obtain⟨base,cap,rfl,-,hN⟩:=h
 obtain⟨n,hn⟩:∃ n,l.length=n:=⟨_,rfl⟩
 obtain⟨R,hR⟩:∃ R,walkN l n 0 [] (zers n) (zers n)=R:=⟨_,rfl⟩
 have hS:=shapeN_is l
 rw [hn,hR] at hS
 rw [hY] at hS ⊢
 rw [hB]
 have HB:=zz hB
 clear hB hY
 rw [hn] at hl ⊢
 have HR:=zz4 ⟨hR,hS,hn,hN⟩
 clear hR hN hS hn
 go_enter Tryz.func77,Tryz.ntmps77
 go_upto_region 1 with fail
 go_cut [5,6] (fun c d wx=>∃ g1 g2,c=.slice (some ⟨g1,0,none⟩) n n∧d=.slice (some ⟨g2,0,none⟩) n n∧Sep w wx [oIs g1 n (zers n),oIs g2 n (zers n)])
 case first=>
  refine wp_region_perm (C:=fun w'=>∃ x:Ex w,w' = x.w) [0,1,3,4] 7 (by kernel_rfl) (by kernel_rfl) ⟨Ex.mk _ ((Ext.refl [] w).drew),rfl⟩ ?_
  simp only [pick,List.drop_succ_cons,List.drop_zero,List.getElem?_toArray,List.getElem?_cons_zero,List.getElem?_cons_succ]
  repeat (go_big_quiet_step (fail))
  refine wpQuiet_nil ?_
  have S:=(Sep.start w).quiet ((Ext.refl [] w).drew)
  obtain⟨V,hV⟩:∃ V,w.drew=V:=⟨_,rfl⟩
  have hx0:Ext [] w V:=by rw [←hV]; exact (Ext.refl [] w).drew
  rw [hV] at S ⊢
  refine anyC_two (f:=2) (i:=2) (j:=5) (by kernel_rfl) (by decide) (by decide) rfl rfl rfl rfl (fun K hK=>?_) (fun K hK=>?_)
  ·obtain⟨q1,W1,m1,x1,S1⟩:=made n (by omega) S
   go_wp2_with fail
   refine hK _ _ ⟨Ex.mk _ (hx0.trans x1),rfl⟩ ?_
   clear hK K m1
   refine anyC_two (f:=1) (i:=5) (j:=6) (by kernel_rfl) (by decide) (by decide) rfl rfl rfl rfl (fun K hK=>?_) (fun K hK=>?_)
   ·obtain⟨q2,W2,m2,x2,S2⟩:=made n (by omega) S1
    go_wp2_with fail
    refine hK _ _ ⟨Ex.mk _ ((hx0.trans x1).trans x2),rfl⟩ ?_
    clear hK K m2
    refine anyC_one (f:=0) (i:=6) (by kernel_rfl) (by decide) rfl rfl (fun K hK=>?_)
    go_wp2_with fail
    refine hK _ _ ⟨Ex.mk _ ((hx0.trans x1).trans x2),rfl⟩ ?_
    clear hK K
    refine anyC_end (by kernel_rfl) ?_
    go_wp2_with fail
    refine NoPanic.normal ?_
    go_wp2_with fail
    go_meet
    exact⟨_,_,rfl,rfl,swap01 S2⟩
   ·go_wp2_with fail
    refine hK _ _ ⟨Ex.mk _ (hx0.trans x1),rfl⟩ ?_
    clear hK K
    refine anyC_one (f:=0) (i:=5) (by kernel_rfl) (by decide) rfl rfl (fun K hK=>?_)
    obtain⟨q2,W2,m2,x2,S2⟩:=made n (by omega) S1
    go_wp2_with fail
    refine hK _ _ ⟨Ex.mk _ ((hx0.trans x1).trans x2),rfl⟩ ?_
    clear hK K m2
    refine anyC_end (by kernel_rfl) ?_
    go_wp2_with fail
    refine NoPanic.normal ?_
    go_wp2_with fail
    go_meet
    exact⟨_,_,rfl,rfl,swap01 S2⟩
  ·obtain⟨q1,W1,m1,x1,S1⟩:=made n (by omega) S
   go_wp2_with fail
   refine hK _ _ ⟨Ex.mk _ (hx0.trans x1),rfl⟩ ?_
   clear hK K m1
   refine anyC_one (f:=1) (i:=2) (by kernel_rfl) (by decide) rfl rfl (fun K hK=>?_)
   obtain⟨q2,W2,m2,x2,S2⟩:=made n (by omega) S1
   go_wp2_with fail
   refine hK _ _ ⟨Ex.mk _ ((hx0.trans x1).trans x2),rfl⟩ ?_
   clear hK K m2
   refine anyC_one (f:=0) (i:=6) (by kernel_rfl) (by decide) rfl rfl (fun K hK=>?_)
   go_wp2_with fail
   refine hK _ _ ⟨Ex.mk _ ((hx0.trans x1).trans x2),rfl⟩ ?_
   clear hK K
   refine anyC_end (by kernel_rfl) ?_
   go_wp2_with fail
   refine NoPanic.normal ?_
   go_wp2_with fail
   go_meet
   exact⟨_,_,rfl,rfl,S2⟩
 case rest=>
  obtain⟨eq,dq,rfl,rfl,S⟩:=hcut
  have S:=S.new (Ext.refl _ _) (oRv (.slice none 0 0) []) (World.ownsRow_nil _ _ _ _) (fun q hq=>by simp [oRv,oSl,Value.ownBlock] at hq)
  have S:=S.new (Ext.refl _ _) (oRv (.slice none 0 0) []) (World.ownsRow_nil _ _ _ _) (fun q hq=>by simp [oRv,oSl,Value.ownBlock] at hq)
  have HS:=zz S
  clear S
  go_wp2_with fail
  go_loopg [7,8,9] n (fun g ov xv iv wr=>∃ (i:Nat) (T:List Fm) (E D:List Int),g+i=n∧iv=.int .i64 i∧walkN l g i T E D=R∧(stkOk l i T∧frOk l T)∧E.length=n∧D.length=n∧Sep w wr [oRv ov (firsts T),oRv xv (nexts T),oIs eq n E,oIs dq n D])
  case atStart=>exact⟨0,[],_,_,by omega,rfl,HR.out.1,⟨⟨by simp,by simp,by simp⟩,fun p hp=>by cases hp⟩,zers_len n,zers_len n,HS.out⟩
  case round=>
   clear HS
   obtain⟨i,T,E,D,hgi,rfl,hwk,hok,hE,hD,S⟩:=hrel
   have HW:=zz5 ⟨hwk,hok,hE,hD,S⟩
   clear hwk hok hE hD S
   by_cases hlt:i<n
   ·obtain⟨g,rfl⟩:∃ g,gk=g+1:=⟨gk - 1,by omega⟩
    have hltz:(i:Int)<(n:Int):=by omega
    go_upto_if 24 with (fail)
    go_cut [7,8,9] from 17 to 108 (fun c7 c8 c9 wx=>∃ T2,comeN l i T=some T2∧(∀ p∈T2,p.1<i∧p.2≤i+1)∧T2.length≤i∧c9=.int .i64 i∧Sep w wx [oRv c7 (firsts T2),oRv c8 (nexts T2),oIs eq n E,oIs dq n D])
    case first=>
     by_cases h0:0<i
     case neg=>
      obtain rfl:i=0:=by omega
      obtain⟨hwk,⟨⟨h1,h2,h3⟩,-⟩,hE,hD,S⟩:=HW.out
      obtain rfl:T=[]:=List.length_eq_zero_iff.1 (by omega)
      clear hwk h1 h2 h3 hE hD
      have HS:=zz S
      clear S
      go_wp2_with fail
      go_meet
      exact⟨[],rfl,by simp,by simp,rfl,HS.out⟩
     case pos=>
     have h0z:(0:Int)<(i:Int):=by omega
     obtain _ | ⟨⟨a,k⟩,T⟩:=T
     ·have hO:wr.ownsRow 0 3 1 u7 0 (rvC []):=HW.out.2.2.2.2.get 0 rfl
      obtain⟨ao,cap5,rfl⟩:=row_slice hO
      clear hO
      go_wp2_with fail
      go_ret3
      have hR:R=none:=by rw [←HW.out.1,walkN,comeN,if_pos h0]
      rw [hR] at HR
      obtain rfl:Y=none:=HR.out.2.1
      obtain rfl:B=false:=HB.out.symm
      exact⟨_,_,rfl,HW.out.2.2.2.2.ext,trivial⟩
     ·have hO:(oRv u7 (a::firsts T)).P wr:=HW.out.2.2.2.2.get 0 rfl
      have hX:(oRv u8 (k::nexts T)).P wr:=HW.out.2.2.2.2.get 1 rfl
      obtain⟨g7,cap7,rfl,f1,f2,-⟩:=rv_top hO
      obtain⟨g8,cap8,rfl,f3,f4,-⟩:=rv_top hX
      clear hO hX
      obtain⟨⟨h1,h2,h3⟩,-⟩:=HW.out.2.1
      have ha:a<l.length:=by rw [HR.out.2.2.1]; exact Nat.lt_trans (h1 (a,k) (List.mem_cons_self ..)).1 hlt
      have hk:k<(kidsAt l a).length:=h3 (a,k) rfl
      obtain⟨b,o,rfl,n1,n2,n3,n4,nw,bk,ck,n5,n6⟩:=HR.out.2.2.2.ext HW.out.2.2.2.2.ext a ha
      have hka:kidsAt l a=(l[a]'ha).kids:=by rw [kidsAt,List.getElem?_eq_getElem ha]
      generalize l[a]'ha=x at *
      rw [hka] at hk
      obtain⟨b2,o2,rfl,n7⟩:=n6 k hk
      clear n1 n2 n3 n4 nw n6 h3
      have hki:k≤i:=(h1 (a,k) (List.mem_cons_self ..)).2
      have ht9:T.length+1≤65536:=by simp only [List.length_cons] at h2; omega
      rw [firsts_len] at f1 f2 ⊢
      rw [nexts_len] at f3 f4 ⊢
      obtain⟨t,ht⟩:∃ t,T.length=t:=⟨_,rfl⟩
      rw [ht] at f1 f2 f3 f4 ht9 ⊢
      have HW:=zz HW.out
      rw [firsts_len,nexts_len,ht] at HW
      have HT:=zz3 ⟨ht,hka,h1⟩
      have h10:((t:Int)+1==0)=false:=beq_eq_false_iff_ne.2 (by omega)
      have haz:(a:Int)<(n:Int):=by have:=HR.out.2.2.1; omega
      have hkz:(k:Int)<(x.kids.length:Int):=by omega
      obtain⟨y,hy⟩:∃ y,x.kids[k]'hk=y:=⟨_,rfl⟩
      rw [hy] at n7
      have HY:=zz hy
      clear h2 ht hka hy h1
      by_cases hyi:y=(i:Int)
      case neg=>
       have hb:(y != (i:Int))=true:=bne_iff_ne.2 hyi
       have hR:R=none:=by
        rw [←HW.out.1,walkN,comeN,if_pos h0,HT.out.2.1,List.getElem?_eq_getElem hk,HY.out,if_neg (by simpa using hyi)]
       clear HY hyi
       go_upto_region 11 with (fail)
       go_quiet (fail)
       go_wp2_with fail
       go_ret3
       rw [hR] at HR
       obtain rfl:Y=none:=HR.out.2.1
       obtain rfl:B=false:=HB.out.symm
       exact⟨_,_,rfl,HW.out.2.2.2.2.ext.drewN _,trivial⟩
      case pos=>
       subst hyi
       have hC:comeN l i ((a,k)::T)=some ((a,k+1)::T):=by rw [comeN,if_pos h0,HT.out.2.1,List.getElem?_eq_getElem hk,HY.out,if_pos rfl]
       have HC:=zz hC
       clear HY hC
       go_upto_region 11 with (fail)
       go_quiet (fail)
       go_wp2_with fail
       go_meet
       have S:=HW.out.2.2.2.2.quiet ((Ext.refl [] wr).drewN nq)
       have hP:=S.get 1 rfl
       have hP2:=rv_put (b:=k+1) (L:=nexts T) (a:=k) (by rw [nexts_len,HT.out.1]; exact hP)
       rw [nexts_len,HT.out.1] at hP2
       refine⟨_,HC.out,?_,?_,rfl,S.upd 1 (oRv _ (nexts ((a,k+1)::T))) rfl ((Ext.refl _ _).setCell _ _ (.inl (by simp [oRv,oSl,Value.ownBlock]))) (Fr.refl _ _) hP2⟩
       ·intro p hp
        rcases List.mem_cons.1 hp with rfl | hp
        ·exact⟨(HT.out.2.2 (a,k) (List.mem_cons_self ..)).1,by have:=(HT.out.2.2 (a,k) (List.mem_cons_self ..)).2; simp only at *; omega⟩
        ·have:=HT.out.2.2 p (List.mem_cons_of_mem _ hp)
         exact⟨this.1,by omega⟩
       ·have:=HW.out.2.1.1.2.1
        simpa using this
    case rest=>
     obtain⟨T2,hC,hA,hT2,rfl,S⟩:=hcut
     have hwk:walkN l g (i+1) (closeN l i ((i,0)::T2) E).1 (closeN l i ((i,0)::T2) E).2 (D.set i ((T2.length:Int)+1))=R:=by rw [←HW.out.1,walkN,hC]
     have hF:=(HW.out.2.1.2.come hC).push (i:=i)
     have hE:=HW.out.2.2.1
     have hD:=HW.out.2.2.2.1
     obtain⟨ao,cap7,rfl⟩:=row_slice (show wc.ownsRow 0 3 1 u7 (firsts T2).length (rvC (firsts T2)) from S.get 0 rfl)
     obtain⟨ax,cap8,rfl⟩:=row_slice (show wc.ownsRow 0 3 1 u8 (nexts T2).length (rvC (nexts T2)) from S.get 1 rfl)
     have r0:=ints_at (g:=dq) (S.get 3 rfl) (k:=i) (by omega)
     have f0:=ints_free (g:=dq) (S.get 3 rfl) i
     obtain⟨C,hC2⟩:∃ C,closeN l i ((i,0)::T2) E=C:=⟨_,rfl⟩
     have S:=ints_set (k:=i) (x:=(T2.length:Int)+1) S 3 rfl
     have S:Sep w (wc.setCell ⟨dq,i,none⟩ (.int .i64 ((T2.length:Int)+1))) [oRv (.slice ao (firsts T2).length cap7) (firsts T2),oRv (.slice ax (nexts T2).length cap8) (nexts T2),oIs eq n E,oIs dq n (D.set i ((T2.length:Int)+1))]:=S
     rw [firsts_len,nexts_len] at S ⊢
     obtain⟨t,ht⟩:∃ t,T2.length=t:=⟨_,rfl⟩
     obtain⟨D2,hD2⟩:∃ D2,D.set i ((t:Int)+1)=D2:=⟨_,rfl⟩
     rw [ht,hD2] at hwk
     rw [hC2] at hwk
     rw [ht,hD2] at S
     have hDl:D2.length=n:=by rw [←hD2,List.length_set,hD]
     rw [ht] at hT2 ⊢
     have HW:=zz8 ⟨hwk,hA,hE,hDl,S,ht,hC2,hF⟩
     clear hwk hA hE hD S ht hC2 hC hDl hD2 hF
     go_upto_region 15 with (fail)
     obtain⟨W,hW⟩:∃ W,wc.setCell ⟨dq,i,none⟩ (.int .i64 ((t:Int)+1))=W:=⟨_,rfl⟩
     rw [hW] at HW ⊢
     clear hW r0 f0
     have hown:W.ownsRow 0 3 1 (.slice ao t cap7) t (rvC (firsts T2)):=by
      have:W.ownsRow 0 3 1 _ (firsts T2).length _:=HW.out.2.2.2.2.1.get 0 rfl
      rw [firsts_len,HW.out.2.2.2.2.2.1] at this
      exact this
     have HO:=zz hown
     clear hown
     go_wp2_with (first | (at_builtin; refine wpList_append_lies _ rfl _ _ 39 rfl 0 3 i0 _ 1 8 Tryz.underlying39 hif hz0 hz1 hz2 rfl (by decide) (.slice ao t cap7) t _ rfl (World.ownsRow.alloc HO.out _) ⟨W.heap.size,0,none⟩ 1 1 [.int .i64 (i:Nat)] rfl rfl (cell_one_new _ _ _) (by simp [Value.oneCell']) (by decide) (by unfold maxLen; omega) (by omega) (by omega) (W.heap.size+1) (by simp) ?_; intro g7 cap2 w6 hown1 hgrow hat hlt6; have P:=push_local (cap:=cap2) (n:=t+1) hgrow hat; have S:=HW.out.2.2.2.2.1.upd 0 (oRv (.slice (some ⟨g7,0,none⟩) (t+1) cap2) (i::firsts T2)) rfl P.1 P.2 (by show w6.ownsRow 0 3 1 _ ((firsts T2).length+1) (rvC (i::firsts T2)); rw [firsts_len,HW.out.2.2.2.2.2.1,rvC_cons]; exact hown1); have HS1:=zz S; have hownx:w6.ownsRow 0 3 1 (.slice ax t cap8) t (rvC (nexts T2)):=(by have hh:w6.ownsRow 0 3 1 _ (nexts T2).length _:=S.get 1 rfl; rw [nexts_len,HW.out.2.2.2.2.2.1] at hh; exact hh); have HX:=zz hownx; clear hownx S P hown1 hgrow hat hlt6) | (at_builtin; refine wpList_append_lies _ rfl _ _ 39 rfl 0 3 i0 _ 1 8 Tryz.underlying39 hif hz0 hz1 hz2 rfl (by decide) (.slice ax t cap8) t _ rfl (World.ownsRow.alloc HX.out _) ⟨w6.heap.size,0,none⟩ 1 1 [.int .i64 0] rfl rfl (cell_one_new _ _ _) (by simp [Value.oneCell']) (by decide) (by unfold maxLen; omega) (by omega) (by omega) (w6.heap.size+1) (by simp) ?_; intro g8 cap3 w7 hown2 hgrow2 hat2 hlt7))
     have P:=push_local (cap:=cap3) (n:=t+1) hgrow2 hat2
     have S:=HS1.out.upd 1 (oRv (.slice (some ⟨g8,0,none⟩) (t+1) cap3) (0::nexts T2)) rfl P.1 P.2 (by
      show w7.ownsRow 0 3 1 _ ((nexts T2).length+1) (rvC (0::nexts T2))
      rw [nexts_len,HW.out.2.2.2.2.2.1,rvC_cons]
      exact hown2)
     have HS:=zz S
     clear S P hown2 hgrow2 hat2 hlt7 HO HS1 HX
     go_loopg [7,8] (t+1) (fun g2 ov xv wx=>∃ (T3:List Fm) (E3:List Int),g2=T3.length∧closeN l i T3 E3=C∧(∀ p∈T3,p.1<i+1∧p.2≤i+1)∧T3.length≤i+1∧E3.length=n∧frOk l T3∧Sep w wx [oRv ov (firsts T3),oRv xv (nexts T3),oIs eq n E3,oIs dq n D2])
     case atStart=>
      refine⟨(i,0)::T2,E,by rw [List.length_cons,HW.out.2.2.2.2.2.1],HW.out.2.2.2.2.2.2.1,fun p hp=>?_,by rw [List.length_cons,HW.out.2.2.2.2.2.1]; omega,HW.out.2.2.1,HW.out.2.2.2.2.2.2.2,HS.out⟩
      rcases List.mem_cons.1 hp with rfl | hp
      ·exact⟨Nat.lt_succ_self _,Nat.zero_le _⟩
      ·exact⟨Nat.lt_succ_of_lt (HW.out.2.1 p hp).1,(HW.out.2.1 p hp).2⟩
     case round=>
      clear HS
      obtain⟨T3,E3,rfl,hC,hA,hT3,hE3,hF,S⟩:=hrel
      obtain _ | ⟨⟨a,k⟩,T3⟩:=T3
      ·obtain⟨ao5,cap6,rfl⟩:=row_slice (show wr.ownsRow 0 3 1 u7 0 (rvC []) from S.get 0 rfl)
       have HS:=zz S
       have HC:=zz hC
       clear S hC hA hT3 hF
       go_upto_region 16 with (fail)
       go_quiet (fail)
       go_wp2_with fail
       have S:=HS.out.quiet ((Ext.refl [] wr).drewN nq)
       go_roundg g
       case measure=>omega
       case rel=>
        refine⟨i+1,[],E3,D2,by omega,by go_num,?_,⟨⟨by simp,by simp,by simp⟩,fun p hp=>by cases hp⟩,hE3,HW.out.2.2.2.1,S⟩
        rw [←HW.out.1,←HC.out]
        rfl
      ·have hO:(oRv u7 (a::firsts T3)).P wr:=S.get 0 rfl
       have hX:(oRv u8 (k::nexts T3)).P wr:=S.get 1 rfl
       obtain⟨g7b,cap7b,rfl,f1,-,hc7⟩:=rv_top hO
       obtain⟨g8b,cap8b,rfl,f3,-,hc8⟩:=rv_top hX
       clear hO hX
       have ha:a<l.length:=by
        have h1:=(hA (a,k) (List.mem_cons_self ..)).1
        have h2:=HR.out.2.2.1
        simp only at h1
        omega
       obtain⟨b,o,rfl,n1,n2,n3,n4,nw,bk,ck,n5,n6⟩:=HR.out.2.2.2.ext S.ext a ha
       have hka:kidsAt l a=(l[a]'ha).kids:=by rw [kidsAt,List.getElem?_eq_getElem ha]
       generalize l[a]'ha=x at *
       clear n1 n2 n3 n4 nw n6
       have hkl:k≤x.kids.length:=by rw [←hka]; exact hF (a,k) (List.mem_cons_self ..)
       rw [firsts_len] at f1 hc7 ⊢
       rw [nexts_len] at f3 hc8 ⊢
       have e0:=ints_at (g:=eq) (S.get 2 rfl) (k:=a) (by have:=HR.out.2.2.1; omega)
       have e1:=ints_free (g:=eq) (S.get 2 rfl) a
       have HS:=zz S
       rw [firsts_len,nexts_len] at HS
       obtain⟨m,hm⟩:∃ m,T3.length=m:=⟨_,rfl⟩
       rw [hm] at f1 f3 hc7 hc8 HS ⊢
       have haz:(a:Int)<(n:Int):=by have:=HR.out.2.2.1; omega
       have hm9:m+1≤65536:=by simp only [List.length_cons] at hT3; omega
       have HS:=zz7 ⟨HS.out,hC,hA,hT3,hka,hm,hF⟩
       clear S hC hA hT3 hka hm hF
       have hmz:(0:Int)<(m:Int)+1:=by omega
       by_cases hkk:k<x.kids.length
       ·have hkz:((k:Int)==(x.kids.length:Int))=false:=beq_eq_false_iff_ne.2 (by omega)
        go_upto_region 16 with (fail)
        go_quiet (fail)
        go_wp2_with fail
        have S:=HS.out.1.quiet ((Ext.refl [] wr).drewN nq)
        go_roundg g
        case measure=>omega
        case rel=>
         refine⟨i+1,(a,k)::T3,E3,D2,by omega,by go_num,?_,⟨⟨HS.out.2.2.1,HS.out.2.2.2.1,fun p hp=>?_⟩,HS.out.2.2.2.2.2.2⟩,hE3,HW.out.2.2.2.1,S⟩
         ·have hC:=HS.out.2.1
          rw [closeN,HS.out.2.2.2.2.1,if_pos hkk] at hC
          rw [←HW.out.1,←hC]
         ·simp at hp
          subst hp
          rw [HS.out.2.2.2.2.1]
          exact hkk
       ·have hkz:((k:Int)==(x.kids.length:Int))=true:=beq_iff_eq.2 (by omega)
        go_upto_region 16 with (fail)
        go_quiet (fail)
        have HS1:=zz (ints_set (k:=a) (x:=(i:Int)+1) (HS.out.1.quiet ((Ext.refl [] wr).drewN nq)) 2 rfl)
        go_upto_region 18 with (fail)
        go_quiet (fail)
        go_wp2_with fail
        have S:=HS1.out.quiet ((Ext.refl [] _).drewN nq)
        have hP:=S.get 0 rfl
        have S2:=S.upd 0 (oRv (.slice (some ⟨g7b,0,none⟩) m cap7b) (firsts T3)) rfl (Ext.refl _ _) (Fr.refl _ _) (by
         rw [←HS.out.2.2.2.2.2.1,←firsts_len] at hP ⊢
         exact rv_pop hP)
        have hP2:=S2.get 1 rfl
        have S3:=S2.upd 1 (oRv (.slice (some ⟨g8b,0,none⟩) m cap8b) (nexts T3)) rfl (Ext.refl _ _) (Fr.refl _ _) (by
         rw [←HS.out.2.2.2.2.2.1,←nexts_len] at hP2 ⊢
         exact rv_pop hP2)
        go_roundg T3.length
        case measure=>simp
        case rel=>
         refine⟨T3,E3.set a ((i:Int)+1),rfl,?_,fun p hp=>HS.out.2.2.1 p (List.mem_cons_of_mem _ hp),?_,by rw [List.length_set,hE3],fun p hp=>HS.out.2.2.2.2.2.2 p (List.mem_cons_of_mem _ hp),S3⟩
         ·have hC:=HS.out.2.1
          rw [closeN,HS.out.2.2.2.2.1,if_neg hkk] at hC
          exact hC
         ·have:=HS.out.2.2.2.1
          simp only [List.length_cons] at this
          omega
   ·obtain rfl:gk=0:=by omega
    obtain rfl:i=n:=by omega
    have hR:=HW.out.1
    rw [walkN] at hR
    by_cases h0:0<i
    ·have h0z:(0:Int)<(i:Int):=by omega
     obtain _ | ⟨p,T⟩:=T
     ·obtain⟨ao5,cap6,rfl⟩:=row_slice (show wr.ownsRow 0 3 1 u7 0 (rvC []) from HW.out.2.2.2.2.get 0 rfl)
      have HR2:=zz hR
      clear hR
      go_wp2_with fail
      go_ret3
      have hYs:Y=some (E,D):=by rw [HR.out.2.1,←HR2.out,shapeR,if_pos h0]
      obtain rfl:B=true:=by rw [←HB.out,hYs]; rfl
      refine⟨.slice (some ⟨eq,0,none⟩) i i,.slice (some ⟨dq,0,none⟩) i i,rfl,HW.out.2.2.2.2.ext,?_⟩
      rw [hYs]
      exact⟨⟨_,i,by rw [HW.out.2.2.1],ints_own (HW.out.2.2.2.2.get 2 rfl)⟩,_,i,by rw [HW.out.2.2.2.1],ints_own (HW.out.2.2.2.2.get 3 rfl)⟩
     ·obtain⟨ao5,cap6,rfl⟩:=row_slice (show wr.ownsRow 0 3 1 u7 (firsts (p::T)).length (rvC (firsts (p::T))) from HW.out.2.2.2.2.get 0 rfl)
      rw [firsts_len,List.length_cons]
      have HR2:=zz hR
      obtain⟨m,hm⟩:∃ m,T.length=m:=⟨_,rfl⟩
      rw [hm]
      have hmb:((m:Int)+1==0)=false:=beq_eq_false_iff_ne.2 (by omega)
      clear hR hm
      go_wp2_with fail
      go_ret3
      obtain rfl:Y=none:=by rw [HR.out.2.1,←HR2.out]; rfl
      obtain rfl:B=false:=HB.out.symm
      exact⟨_,_,rfl,HW.out.2.2.2.2.ext,trivial⟩
    ·have h0z:¬ (0:Int)<(i:Int):=by omega
     have HR2:=zz hR
     clear hR
     go_wp2_with fail
     go_ret3
     obtain rfl:Y=none:=by
      rw [HR.out.2.1,←HR2.out]
      obtain _ | ⟨p,T⟩:=T
      ·rw [shapeR,if_neg h0]
      ·rfl
     obtain rfl:B=false:=HB.out.symm
     exact⟨_,_,rfl,HW.out.2.2.2.2.ext,trivial⟩
theorem dict17_walk (v:Value) (l:List Nd) (w:World) (h:NodesAt w v l) (i:Nat) (hi:i<l.length) (hk:∀ (j:Nat) (c:Int),(l[i]'hi).kids[j]? = some c→(0:Int)≤c∧c<l.length) :
  Calls Tryz.prog 79 #[v,.int .i64 i] w fun e w'=>e=.returned (.bool (decide ((l[i]'hi).kids.length % 2=0)&&risesN l none (l[i]'hi).kids))∧Ext [] w w':=by
 obtain⟨base,cap,rfl,-,hN⟩:=h
 obtain⟨b,o,rfl,n1,n2,n3,n4,nw,bk,ck,n5,n6⟩:=hN i hi
 generalize l[i]'hi=x at *
 obtain⟨n,hn⟩:∃ n,l.length=n:=⟨_,rfl⟩
 obtain⟨R,hR⟩:∃ R,(decide (x.kids.length % 2=0)&&risesN l none x.kids)=R:=⟨_,rfl⟩
 rw [hR]
 obtain⟨K,hK⟩:∃ K,x.kids.length=K:=⟨_,rfl⟩
 have hkl:=nw.len
 have hiz:(i:Int)<(n:Int):=by omega
 have HH:=zz6 ⟨hN,hk,hn,hK,hR,n6⟩
 rw [hn] at hi ⊢
 rw [hK] at n5 hkl
 clear hN hk hn n1 n2 n3 n4 nw n6
 by_cases hev:K % 2=0
 case neg=>
  have hRf:R=false:=by rw [←hR,hK,decide_eq_false hev,Bool.false_and]
  have he1:Int.tmod (K:Int) 2=1:=(show Int.tmod (K:Int) 2=((K % 2:Nat):Int) from rfl).trans (by omega)
  subst hRf
  clear hR hK hev
  go_enter Tryz.func79,Tryz.ntmps79
  go_wp2_with fail
  go_ret
  exact⟨rfl,Ext.refl _ _⟩
 case pos=>
 have he1:Int.tmod (K:Int) 2=0:=(show Int.tmod (K:Int) 2=((K % 2:Nat):Int) from rfl).trans (by omega)
 have HO:=zz (show risesN l none x.kids=R by rw [←hR,hK,decide_eq_true hev,Bool.true_and])
 have HE:=zz hev
 clear hR hK hev
 go_enter Tryz.func79,Tryz.ntmps79
 go_wp2_with fail
 go_loopg [6] K (fun g2 v6 wx=>∃ (j:Nat) (p:Option ByteArray),g2+j=K∧j % 2=0∧v6=.int .i64 j∧risesN l p (x.kids.drop j)=R∧((j=0∧p=none)∨∃ m:Nat,2≤j∧x.kids[j - 2]? = some (m:Int)∧m<l.length∧p=some (ndAt l m).s)∧Ext [] w wx)
 case atStart=>exact⟨0,none,by omega,rfl,rfl,HO.out,.inl ⟨rfl,rfl⟩,Ext.refl _ _⟩
 case round=>
  obtain⟨j,p,hgj,hj2,rfl,hRj,hp,hx⟩:=hrel
  by_cases hjK:j<K
  ·obtain⟨g2,rfl⟩:∃ g2,gk=g2+2:=⟨gk - 2,by have:=HE.out; omega⟩
   have hjz:(j:Int)<(K:Int):=by omega
   have hKx:=HH.out.2.2.2.1
   have hj1:j+1<x.kids.length:=by omega
   rw [rises_step l p x.kids j hj1] at hRj
   have hr:=HH.out.2.1 j _ (List.getElem?_eq_getElem (by omega))
   obtain⟨bb,oo,rfl,hc⟩:=(HH.out.2.2.2.2.2.ext hx) j (by omega)
   have hkj:x.kids[j]? = some (x.kids[j]'(by omega)):=List.getElem?_eq_getElem (by omega)
   generalize x.kids[j]'(by omega)=c at hRj hr hc hkj
   obtain⟨m,rfl⟩:∃ m:Nat,c=(m:Int):=⟨c.toNat,by omega⟩
   have hm:m<l.length:=by omega
   obtain⟨b9,o9,e9,n1,n2,n3,n4,nw,bk9,ck9,n5,n6⟩:=node_in (HH.out.1.ext hx) m hm
   cases e9
   have hmz:(m:Int)<(n:Int):=by have:=HH.out.2.2.1; omega
   have HN:=zz5 ⟨hkj,hRj,hp,hx,hr⟩
   have HV:=zz (fun m hm=>node_in (HH.out.1.ext hx) m hm)
   obtain⟨y,hy⟩:∃ y,ndAt l (m:Int)=y:=⟨_,rfl⟩
   rw [hy] at n1 n2 n3 n4 n5 HN
   have HY:=zz hy
   clear hy hkj hRj hp hx hr n6 nw hKx hj1 n2 n3 n5
   have hBv:=HN.out.2.1
   by_cases hk6:y.kind=6
   case neg=>
    have hk6b:(y.kind != 6)=true:=bne_iff_ne.2 hk6
    have hBf:R=false:=by rw [←hBv,decide_eq_false hk6]; rfl
    subst hBf
    clear hk6 hBv
    go_upto_region 7 with (fail)
    go_quiet (fail)
    go_wp2_with fail
    go_ret
    exact⟨rfl,HN.out.2.2.2.1.drewN _⟩
   case pos=>
   have hk6b:(y.kind != 6)=false:=by rw [hk6]; rfl
   rw [decide_eq_true hk6,Bool.true_and] at hBv
   clear hk6
   rcases HN.out.2.2.1 with ⟨hj0,hp⟩ | ⟨m2,hj2',hk2,hm2,hp⟩
   ·have hjf:¬ (0:Int)<(j:Int):=by omega
    have hjd:decide ((0:Int)<(j:Int))=false:=decide_eq_false hjf
    have hjd2:decide (0<j)=false:=decide_eq_false (by omega)
    rw [hp,belowN,Bool.true_and] at hBv
    have HBV:=zz hBv
    clear hBv hp hj0 hjf
    go_upto_region 7 with (fail)
    go_quiet (fail)
    go_wp2_with fail
    go_roundg g2
    case measure=>omega
    case rel=>exact⟨j+2,_,by omega,by omega,by go_num,HBV.out,.inr ⟨m,by omega,by rw [Nat.add_sub_cancel]; exact HN.out.1,hm,by rw [HY.out]⟩,HN.out.2.2.2.1.drewN _⟩
   ·have hjd:decide ((0:Int)<(j:Int))=true:=decide_eq_true (by omega)
    have hjd2:decide (0<j)=true:=decide_eq_true (by omega)
    have hj2a:(2:Int)≤(j:Int):=by omega
    obtain⟨i2,hi2⟩:∃ i2,j - 2=i2:=⟨_,rfl⟩
    rw [hi2] at hk2
    have hi2z:(j:Int) - 2=(i2:Int):=by omega
    have hi2l:=(List.getElem?_eq_some_iff.1 hk2).1
    have hi2K:(i2:Int)<(K:Int):=by have:=HH.out.2.2.2.1; omega
    obtain⟨b7,o7,e7,hc7⟩:=(HH.out.2.2.2.2.2.ext HN.out.2.2.2.1) i2 hi2l
    cases e7
    rw [(List.getElem?_eq_some_iff.1 hk2).2] at hc7
    obtain⟨b8,o8,e8,m8⟩:=HV.out m2 hm2
    cases e8
    have m3:=m8.s
    have hm2z:(m2:Int)<(n:Int):=by have:=HH.out.2.2.1; omega
    obtain⟨s2,hs2⟩:∃ s2,(ndAt l (m2:Int)).s=s2:=⟨_,rfl⟩
    rw [hs2] at m3 hp
    rw [hp,belowN] at hBv
    clear hk2 hi2 hi2l hs2 m8 hp
    cases hless:Op.bytesLess s2.toList y.s.toList with
    | false=>
     rw [hless,Bool.false_and] at hBv
     subst hBv
     go_upto_region 7 with (fail)
     go_quiet (fail)
     go_wp2_with fail
     go_ret
     exact⟨rfl,HN.out.2.2.2.1.drewN _⟩
    | true=>
     rw [hless,Bool.true_and] at hBv
     have HBV:=zz hBv
     clear hBv
     go_upto_region 7 with (fail)
     go_quiet (fail)
     go_wp2_with fail
     go_roundg g2
     case measure=>omega
     case rel=>exact⟨j+2,_,by omega,by omega,by go_num,HBV.out,.inr ⟨m,by omega,by rw [Nat.add_sub_cancel]; exact HN.out.1,hm,by rw [HY.out]⟩,HN.out.2.2.2.1.drewN _⟩
  ·obtain rfl:j=K:=by omega
   have hBt:R=true:=by rw [←hRj,List.drop_eq_nil_of_le (by rw [HH.out.2.2.2.1]; omega)]; rfl
   have HX3:=zz hx
   subst hBt
   clear hRj hp hx
   go_wp2_with fail
   go_ret
   exact⟨rfl,HX3.out⟩
theorem check17_walk (v:Value) (l:List Nd) (w:World) (h:NodesAt w v l) (hl:l.length≤9223372036854775807) (hs:∀ x∈l,x.s.size≤1000000) :
  Calls Tryz.prog 42 #[v] w fun e w'=>e=.returned (.int .i64 (checkN l))∧Ext [] w w':=by
 by_cases hbig:65536<l.length
 ·obtain⟨base,cap,rfl,-,hN⟩:=h
  have hR:checkN l=3:=if_pos hbig
  rw [hR]
  have hbz:(65536:Int)<(l.length:Int):=by omega
  clear hR hN hs
  go_enter Tryz.func42,Tryz.ntmps42
  go_wp2_with fail
  go_ret
  exact⟨rfl,Ext.refl _ _⟩
 have hbz:¬ (65536:Int)<(l.length:Int):=by omega
 have HW:=zz (ends_walk v l w h (by omega))
 have HNA:=zz h
 obtain⟨base,cap,rfl,-,hN⟩:=h
 cases hsh:shapeN l with
 | none=>
  have hR:checkN l=2:=by unfold checkN; rw [if_neg hbig,hsh]
  rw [hR]
  rw [hsh] at HW
  clear hR hN hs hsh
  go_enter Tryz.func42,Tryz.ntmps42
  go_wp2_with fail
  refine HW.out.mono ?_
  rintro e w1 ⟨ev,dv,rfl,hx,-⟩
  have HX:=zz hx
  clear hx HW
  simp only [Option.isSome_none]
  go_wp2_with fail
  go_ret
  exact⟨rfl,HX.out⟩
 | some p=>
  obtain⟨E,D⟩:=p
  obtain⟨h0,hE,hD,hK,hEnd⟩:=shape_some hsh
  rw [hsh] at HW
  have hR:checkN l=if 256<Lib.maxOf D then 3 else if l.all (nodeOk l) then 0 else 2:=by unfold checkN; rw [if_neg hbig,hsh]
  obtain⟨R,hRR⟩:∃ R,checkN l=R:=⟨_,rfl⟩
  rw [hRR] at hR ⊢
  obtain⟨n,hn⟩:∃ n,l.length=n:=⟨_,rfl⟩
  have HD:=zz3 ⟨HNA,hD,h0⟩
  have HH:=zz5 ⟨hN,hK,hs,hn,hR⟩
  rw [hn] at hl hbz hbig h0 hD ⊢
  rw [hn] at HW
  clear hN hK hs hn hR hRR hEnd hE hsh HNA
  go_enter Tryz.func42,Tryz.ntmps42
  go_wp2_with fail
  refine HW.out.mono ?_
  rintro e w1 ⟨ev,dv,rfl,hx,he,hd⟩
  obtain⟨db,dc,rfl,hI⟩:=hd
  clear he HW
  have hx1:=zz hx
  clear hx
  simp only [Option.isSome_some]
  obtain⟨b2,o2,rfl,-⟩:=hI 0 (by omega)
  have HI:=zz hI
  rw [hD]
  clear hI hD
  go_wp2_with fail
  go_loopg [6] n (fun g iv wr=>∃ i:Nat,g+i=n∧iv=.int .i64 i∧(∀ k (h:k<D.length),k<i→D[k]≤256)∧wr=w1)
  case atStart=>exact⟨0,by omega,rfl,fun k _ h=>absurd h (by omega),rfl⟩
  case round=>
   obtain⟨i,hgi,rfl,hlow,rfl⟩:=hrel
   by_cases hlt:i<n
   ·obtain⟨g,rfl⟩:∃ g,gk=g+1:=⟨gk - 1,by omega⟩
    have hltz:(i:Int)<(n:Int):=by omega
    have hil:i<D.length:=by rw [HD.out.2.1,HH.out.2.2.2.1]; exact hlt
    obtain⟨b3,o3,e3,hc⟩:=HI.out i hil
    cases e3
    obtain⟨d,hd⟩:∃ d,D[i]'hil=d:=⟨_,rfl⟩
    rw [hd] at hc
    have HL:=zz2 ⟨hlow,hd⟩
    clear hlow hd
    by_cases hbd:256<d
    ·go_wp2_with fail
     go_ret
     have hmax:256<Lib.maxOf D:=by
      have:=le_maxOf (List.getElem_mem hil)
      rw [HL.out.2] at this
      omega
     obtain rfl:R=3:=by rw [HH.out.2.2.2.2,if_pos hmax]
     exact⟨rfl,hx1.out⟩
    ·go_wp2_with fail
     go_roundg g
     case measure=>omega
     case rel=>
      refine⟨i+1,by omega,by go_num,fun k hk hki=>?_,rfl⟩
      rcases Nat.lt_or_eq_of_le (Nat.le_of_lt_succ hki) with h | h
      ·exact HL.out.1 k hk h
      ·subst h
       rw [HL.out.2]
       omega
   ·obtain rfl:gk=0:=by omega
    have hmax:¬ 256<Lib.maxOf D:=by
     have hD:=HD.out.2.1
     have:=HH.out.2.2.2.1
     have h3:=maxOf_le (D:=D) (M:=256) (fun e=>by rw [e] at hD; simp at hD; omega) (fun x hx=>by
      obtain⟨k,hk,rfl⟩:=List.mem_iff_getElem.1 hx
      exact hlow k hk (by omega))
     omega
    have hR:=HH.out.2.2.2.2
    rw [if_neg hmax] at hR
    have HR:=zz hR
    clear hR hlow hmax
    go_wp2_with fail
    go_loopg [7] n (fun g iv wr=>∃ i:Nat,g+i=n∧iv=.int .i64 i∧(if (l.drop i).all (nodeOk l) then (0:Int) else 2)=R∧Ext [] w wr)
    case atStart=>exact⟨0,by omega,rfl,by rw [HR.out]; rfl,hx1.out⟩
    case round=>
     clear HR hlt
     obtain⟨i,hgi,rfl,hR,hx⟩:=hrel
     by_cases hlt:i<n
     ·obtain⟨g,rfl⟩:∃ g,gk=g+1:=⟨gk - 1,by omega⟩
      have hltz:(i:Int)<(n:Int):=by omega
      have hil:i<l.length:=by rw [HH.out.2.2.2.1]; exact hlt
      rw [drop_at l i hil,List.all_cons] at hR
      obtain⟨b,o,rfl,n1,n2,n3,n4,nw,bk,ck,n5,n6⟩:=HH.out.1.ext hx i hil
      have hsx:=HH.out.2.2.1 _ (List.getElem_mem hil)
      have hka:kidsAt l i=(l[i]'hil).kids:=by rw [kidsAt,List.getElem?_eq_getElem hil]
      have HDW:=zz (fun (w2:World) (hx2:Ext [] w w2)=>dict17_walk _ l w2 (HD.out.1.out.ext hx2) i hil (fun j c hj=>by have:=HH.out.2.1 i hil j c (by rw [hka]; exact hj); omega))
      generalize l[i]'hil=x at *
      have HB:=zz (fun w=>plain_walk x nw hsx bk ck w)
      have HX:=zz2 ⟨hx,hR⟩
      rw [HH.out.2.2.2.1] at HDW
      clear hx hR hka n6 nw hsx
      go_wp2_with fail
      refine (HB.out _).mono ?_
      rintro e W ⟨rfl,hxW⟩
      have n1:=hxW.cell n1
      have hx2:Ext [] w W:=HX.out.1.trans hxW
      have HX2:=zz2 ⟨hx2,HX.out.2⟩
      clear HX hx2 hxW HB n2 n3 n4 n5
      cases hbare:bareN x with
      | false=>
       have hR:R=2:=by rw [←HX2.out.2,nodeOk,hbare]; simp
       subst hR
       go_wp2_with fail
       go_ret
       exact⟨rfl,HX2.out.1⟩
      | true=>
      by_cases k8:x.kind=8
      case neg=>
       have k8b:(x.kind==8)=false:=beq_eq_false_iff_ne.2 k8
       have hok:nodeOk l x=true:=by simp [nodeOk,hbare,k8]
       clear k8
       go_wp2_with fail
       go_roundg g
       case measure=>omega
       case rel=>
        have:=HX2.out.2
        rw [hok,Bool.true_and] at this
        exact⟨i+1,by omega,by go_num,this,HX2.out.1⟩
      case pos=>
      have k8b:(x.kind==8)=true:=by rw [k8]; rfl
      have hok:nodeOk l x=(decide (x.kids.length % 2=0)&&risesN l none x.kids):=by simp [nodeOk,hbare,k8]
      obtain⟨B,hB⟩:∃ B,(decide (x.kids.length % 2=0)&&risesN l none x.kids)=B:=⟨_,rfl⟩
      rw [hB] at HDW hok
      have HO:=zz hok
      clear hok k8 hbare hB
      go_wp2_with fail
      refine (HDW.out _ HX2.out.1).mono ?_
      rintro e W2 ⟨rfl,hxW2⟩
      have HX3:=zz2 ⟨HX2.out.1.trans hxW2,HX2.out.2⟩
      clear hxW2 HX2 n1
      cases B with
      | false=>
       have hR:R=2:=by rw [←HX3.out.2,HO.out]; simp
       subst hR
       go_wp2_with fail
       go_ret
       exact⟨rfl,HX3.out.1⟩
      | true=>
       go_wp2_with fail
       go_roundg g
       case measure=>omega
       case rel=>
        have:=HX3.out.2
        rw [HO.out,Bool.true_and] at this
        exact⟨i+1,by omega,by go_num,this,HX3.out.1⟩
     ·obtain rfl:gk=0:=by omega
      have hR0:R=0:=by
       rw [←hR,List.drop_eq_nil_of_le (by rw [HH.out.2.2.2.1]; omega)]; rfl
      subst hR0
      have HX:=zz hx
      clear hx hR
      go_wp2_with fail
      go_ret
      exact⟨rfl,HX.out⟩
def kF (Z:List Zd):List Nat:=Z.flatMap fun p=>p.2.ownBlock.toList
theorem kF_append (Z U:List Zd):kF (Z++U)=kF Z++kF U:=by unfold kF; rw [List.flatMap_append]
theorem kF_mem {Z:List Zd} {p:Zd} (hp:p∈Z) {k:Nat} (hk:p.2.ownBlock=some k):k∈kF Z:=mem_kidF hp hk
def zsF (v:Value) (Z:List Zd):List Nat:=v.ownBlock.toList++kF Z
structure ZsP (w:World) (v:Value) (Z:List Zd):Prop where
 row:w.ownsRow 0 41 5 v Z.length (rowN Z)
 kids:∀ p∈Z,w.ownsRow 0 3 1 p.2 p.1.kids.length (p.1.kids.map iz)
 dup:(zsF v Z).Nodup
 wf:∀ p∈Z,NdWf p.1
theorem ZsP.ext {S:List Nat} {w w' : World} {v:Value} {Z:List Zd} (h:ZsP w v Z) (hx:Ext S w w') (hS:∀ k∈zsF v Z,k∉S):ZsP w' v Z:=
 ⟨ownsRow_ext h.row hx (fun g hg=>hS g (by simp [zsF,hg])),fun p hp=>ownsRow_ext (h.kids p hp) hx (fun g hg=>hS g (List.mem_append_right _ (kF_mem hp hg))),h.dup,h.wf⟩
theorem ZsP.lt {w:World} {v:Value} {Z:List Zd} (h:ZsP w v Z):∀ k∈zsF v Z,k<w.heap.size:=fun k hk=>by
 rcases List.mem_append.1 hk with hk | hk
 ·exact (h.row.lt k (by simpa using hk)).2
 ·obtain⟨p,hp,hk⟩:=List.mem_flatMap.1 hk
  exact ((h.kids p hp).lt k (by simpa using hk)).2
def oZs (v:Value) (Z:List Zd):Ob where
 F:=zsF v Z
 P:=fun w=>ZsP w v Z
 ok:=fun h hx hS=>h.ext hx hS
 lt:=fun h=>h.lt
theorem ZsP.nodes {w:World} {v:Value} {Z:List Zd} (h:ZsP w v Z):NodesAt w v (Z.map (·.1)):=rows_nodes h.row h.kids h.wf
theorem zs_nil (w:World):ZsP w (.slice none 0 0) []:=⟨World.ownsRow_nil _ _ _ _,fun p hp=>(by cases hp),by simp [zsF,kF,Value.ownBlock],fun p hp=>(by cases hp)⟩
theorem ZsP.more {w w' : World} {g cap m:Nat} {v:Value} {Z Z2:List Zd} (h:ZsP w v Z) (hk:∀ p∈Z2,w.ownsRow 0 3 1 p.2 p.1.kids.length (p.1.kids.map iz)) (hdu:(kF Z2).Nodup) (hd:∀ k∈kF Z2,k∉zsF v Z) (hw:∀ p∈Z2,NdWf p.1)
  (hx:Ext v.ownBlock.toList w w') (hm:m=Z.length+Z2.length) (hr:w'.ownsRow 0 41 5 (.slice (some ⟨g,0,none⟩) m cap) m (rowN Z++rowN Z2)) (hg:v.ownBlock=some g∨w.heap.size≤g) :
  ZsP w' (.slice (some ⟨g,0,none⟩) m cap) (Z++Z2):=by
 subst hm
 have lt:=h.lt
 have hdup:=h.dup
 unfold zsF at hdup
 rw [List.nodup_append] at hdup
 obtain⟨d1,d2,d3⟩:=hdup
 refine⟨by rw [List.length_append,rowN_append]; exact hr,fun p hp=>?_,?_,fun p hp=>?_⟩
 ·rcases List.mem_append.1 hp with hp | hp
  ·exact ownsRow_ext (h.kids p hp) hx (fun k hk2 hm=>d3 k hm k (kF_mem hp hk2) rfl)
  ·exact ownsRow_ext (hk p hp) hx (fun k hk2 hm=>hd k (kF_mem hp hk2) (List.mem_append_left _ hm))
 ·unfold zsF
  rw [kF_append,List.nodup_append,List.nodup_append]
  refine⟨by simp [Value.ownBlock],⟨d2,hdu,fun k hk1 m hm e=>?_⟩,fun k hk1 m hm e=>?_⟩
  ·subst e
   exact hd k hm (List.mem_append_right _ hk1)
  ·subst e
   obtain rfl:k=g:=by simpa [Value.ownBlock] using hk1
   rcases List.mem_append.1 hm with hm | hm
   ·rcases hg with q | q
    ·exact d3 k (by simp [q]) k hm rfl
    ·have:=lt k (List.mem_append_right _ hm); omega
   ·rcases hg with q | q
    ·exact hd k hm (List.mem_append_left _ (by simp [q]))
    ·obtain⟨p,hp,hk3⟩:=List.mem_flatMap.1 hm
     have:=((hk p hp).lt k (by simpa using hk3)).2
     omega
 ·rcases List.mem_append.1 hp with hp | hp
  ·exact h.wf p hp
  ·exact hw p hp
theorem ZsP.kid {w w1:World} {g5 c5 g6 cap2:Nat} {x:Nd} {kv:Value} {Z:List Zd} {c:Int} {O:Obj} (h:ZsP w (.slice (some ⟨g5,0,none⟩) (Z.length+1) c5) ((x,kv)::Z))
  (hown:w1.ownsRow 0 3 1 (.slice (some ⟨g6,0,none⟩) (x.kids.length+1) cap2) (x.kids.length+1) (x.kids.map iz++[.int .i64 c])) (hgrow:(w.alloc O).grownBy w1 kv.ownBlock) (hat:kv.ownBlock=some g6∨g6=w.heap.size+1)
  (hc : -9223372036854775808≤c∧c≤9223372036854775807) (hkl:x.kids.length+1≤9223372036854775807) :
  ZsP (w1.setCell ⟨g5,4,none⟩ (.slice (some ⟨g6,0,none⟩) (x.kids.length+1) cap2)) (.slice (some ⟨g5,0,none⟩) (Z.length+1) c5) (({ x with kids:=x.kids++[c]},.slice (some ⟨g6,0,none⟩) (x.kids.length+1) cap2)::Z)∧
  Ext (zsF (.slice (some ⟨g5,0,none⟩) (Z.length+1) c5) ((x,kv)::Z)) w (w1.setCell ⟨g5,4,none⟩ (.slice (some ⟨g6,0,none⟩) (x.kids.length+1) cap2))∧
  Fr w (zsF (.slice (some ⟨g5,0,none⟩) (Z.length+1) c5) ((x,kv)::Z)) (zsF (.slice (some ⟨g5,0,none⟩) (Z.length+1) c5) (({ x with kids:=x.kids++[c]},.slice (some ⟨g6,0,none⟩) (x.kids.length+1) cap2)::Z)):=by
 have lt:=h.lt
 have hd:=h.dup
 have hF:zsF (.slice (some ⟨g5,0,none⟩) (Z.length+1) c5) ((x,kv)::Z)=g5::(kv.ownBlock.toList++kF Z):=by simp [zsF,kF,Value.ownBlock]
 have hF2:zsF (.slice (some ⟨g5,0,none⟩) (Z.length+1) c5) (({ x with kids:=x.kids++[c]},.slice (some ⟨g6,0,none⟩) (x.kids.length+1) cap2)::Z)=g5::g6::kF Z:=by simp [zsF,kF,Value.ownBlock]
 have ltF:∀ k∈g5::(kv.ownBlock.toList++kF Z),k<w.heap.size:=fun k hk=>lt k (by rw [hF]; exact hk)
 rw [hF] at hd ⊢
 rw [hF2]
 rw [List.nodup_cons,List.nodup_append] at hd
 obtain⟨d2,d3,d4,d5⟩:=hd
 have g6n:∀ k,k<w.heap.size→kv.ownBlock≠some k→g6≠k:=fun k hk hne e=>by
  subst e
  rcases hat with q | q
  ·exact hne q
  ·omega
 have k5:kv.ownBlock≠some g5:=fun e=>d2 (List.mem_append_left _ (by simp [e]))
 have h65:g6≠g5:=g6n g5 (ltF g5 (by simp)) k5
 have hx:Ext kv.ownBlock.toList w w1:=((Ext.refl _ w).alloc _).grown hgrow (fun k hk=>.inl (by simp [hk]))
 have hrow:w1.ownsRow 0 41 5 (.slice (some ⟨g5,0,none⟩) (Z.length+1) c5) (Z.length+1) (rowN ((x,kv)::Z)):=ownsRow_ext h.row hx (fun g hg hm=>by
  obtain rfl:g5=g:=by simpa [Value.ownBlock] using hg
  exact k5 (by simpa using hm))
 refine⟨⟨?_,fun p hp=>?_,?_,fun p hp=>?_⟩,?_,fun k hk=>?_⟩
 ·have h2:=row_put (i:=4) hrow (.slice (some ⟨g6,0,none⟩) (x.kids.length+1) cap2)
  exact h2
 ·rcases List.mem_cons.1 hp with rfl | hp
  ·have h2:=ownsRow_setCell_other hown (a:=⟨g5,4,none⟩) (fun e=>h65 (by simpa [Value.ownBlock] using e)) (.slice (some ⟨g6,0,none⟩) (x.kids.length+1) cap2)
   show (w1.setCell _ _).ownsRow 0 3 1 _ (x.kids++[c]).length ((x.kids++[c]).map iz)
   rw [List.length_append,List.map_append]
   exact h2
  ·have hk0:=h.kids p (List.mem_cons_of_mem _ hp)
   have h1:=ownsRow_ext hk0 hx (fun g hg hm=>d5 g (by simpa using hm) g (kF_mem hp hg) rfl)
   refine ownsRow_setCell_other h1 (fun e=>?_) _
   exact d2 (List.mem_append_right _ (kF_mem hp e))
 ·rw [hF2,List.nodup_cons,List.nodup_cons]
  refine⟨?_,?_,d4⟩
  ·intro hm
   rcases List.mem_cons.1 hm with e | hm
   ·exact h65 e.symm
   ·exact d2 (List.mem_append_right _ hm)
  ·intro hm
   rcases hat with q | q
   ·exact d5 g6 (by simp [q]) g6 hm rfl
   ·have:=ltF g6 (List.mem_cons_of_mem _ (List.mem_append_right _ hm)); omega
 ·rcases List.mem_cons.1 hp with rfl | hp
  ·have hw:=h.wf (x,kv) (by simp)
   refine⟨hw.n,hw.s,by show (x.kids++[c]).length≤_; rw [List.length_append]; exact hkl,fun k hk=>?_⟩
   rcases List.mem_append.1 hk with hk | hk
   ·exact hw.kids k hk
   ·obtain rfl:k=c:=by simpa using hk
    exact hc
  ·exact h.wf p (List.mem_cons_of_mem _ hp)
 ·refine (hx.mono (fun k _ hk=>?_)).setCell _ _ (.inl (by simp))
  exact List.mem_cons_of_mem _ (List.mem_append_left _ hk)
 ·rcases List.mem_cons.1 hk with rfl | hk
  ·exact .inl (by simp)
  ·rcases List.mem_cons.1 hk with rfl | hk
   ·rcases hat with q | q
    ·exact .inl (by simp [q])
    ·exact .inr (by omega)
   ·exact .inl (List.mem_cons_of_mem _ (List.mem_append_right _ hk))
abbrev nbox (x:Nd) (kv:Value):Obj:=.cells #[.int .i64 x.kind,.int .i64 x.n,.int .i64 x.gen,.string x.s,kv] 41
def oBx (q:Nat) (x:Nd) (kv:Value) (n:Nat) (L:List Int):Ob where
 F:=q::kv.ownBlock.toList
 P:=fun w=>w.heap[q]? = some (nbox x kv)∧w.ownsRow 0 3 1 kv n (L.map iz)∧kv.ownBlock≠some q
 ok:=fun h hx hS=>⟨hx.keep h.1 (hS q (by simp)),ownsRow_ext h.2.1 hx (fun g hg=>hS g (by simp [hg])),h.2.2⟩
 lt:=fun h k hk=>by
  rcases List.mem_cons.1 hk with rfl | hk
  ·exact lt_of_block h.1
  ·exact (h.2.1.lt k (by simpa using hk)).2
def oZk (v:Value) (Z:List Zd) (kv:Value) (n:Nat) (L:List Int):Ob where
 F:=zsF v Z++kv.ownBlock.toList
 P:=fun w=>ZsP w v Z∧w.ownsRow 0 3 1 kv n (L.map iz)∧∀ k∈kv.ownBlock.toList,k∉zsF v Z
 ok:=fun h hx hS=>⟨h.1.ext hx (fun k hk=>hS k (List.mem_append_left _ hk)),ownsRow_ext h.2.1 hx (fun g hg=>hS g (by simp [hg])),h.2.2⟩
 lt:=fun h k hk=>by
  rcases List.mem_append.1 hk with hk | hk
  ·exact h.1.lt k hk
  ·exact (h.2.1.lt k (by simpa using hk)).2
theorem cell_exs {w0 w:World} {L:List Ob} {o:Ob} {a:Addr} {u:Value} (S:Sep w0 w L) (hc0:w0.cell? a=some u) (j:Nat) (hj:L[j]? = some o) {F:List Nat} (hF:∀ k∈F,k∈o.F) (y:ExS F w):y.w.cell? a=some u:=
 y.cell (S.ext.cell hc0) (fun h=>by
  have h1:=S.base o (List.mem_of_getElem? hj) _ (hF _ h)
  have h2:=World.block_lt_of_cell? w0 a hc0
  omega)
theorem moved_walk (w0 w:World) (L:List Ob) (v:Value) (l:List Nd) (B:Int) (S:Sep w0 w L) (h:NodesAt w0 v l) (hl:l.length≤131072) (hk:∀ x∈l,x.kids.length≤131072∧∀ k∈x.kids,-9223372036854775808≤k+B∧k+B≤9223372036854775807) :
  Calls Tryz.prog 80 #[v,.int .i64 B] w fun e w'=>∃ v2 Z,e=.returned v2∧Z.map (·.1)=l.map (moveN B)∧Sep w0 w' (oZs v2 Z::L):=by
 obtain⟨i0,hif,hz0,hz1,hz2⟩:=info_parts infoInt
 obtain⟨j0,hjf,hy0,hy1,hy2⟩:=info_parts infoNode
 obtain⟨base,cap,rfl,-,hN⟩:=h
 obtain⟨n,hn⟩:∃ n,l.length=n:=⟨_,rfl⟩
 have HS:=zz4 ⟨hN,hk,hn,S.new (Ext.refl _ _) (oZs (.slice none 0 0) []) (zs_nil w) (fun k hk=>by simp [oZs,zsF,kF,Value.ownBlock] at hk)⟩
 rw [hn] at hl ⊢
 clear hN hk hn S
 go_enter Tryz.func80,Tryz.ntmps80
 go_wp2_with fail
 go_loopg [5,6] n (fun g ov iv wr=>∃ (i:Nat) (Z2:List Zd),g+i=n∧iv=.int .i64 i∧Z2.length=i∧Z2.map (·.1)=(l.take i).map (moveN B)∧Sep w0 wr (oZs ov Z2::L))
 case atStart=>exact⟨0,[],by omega,rfl,rfl,rfl,HS.out.2.2.2⟩
 case round=>
  obtain⟨i,Z2,hgi,rfl,hZ2,hM,S⟩:=hrel
  have HW:=zz3 ⟨hZ2,hM,S⟩
  clear hZ2 hM S
  by_cases hlt:i<n
  ·obtain⟨g,rfl⟩:∃ g,gk=g+1:=⟨gk - 1,by omega⟩
   have hltz:(i:Int)<(n:Int):=by omega
   have hil:i<l.length:=by rw [HS.out.2.2.1]; exact hlt
   obtain⟨bb,o,rfl,m1,m2,m3,m4,nw,bk,ck,m5,n6⟩:=HS.out.1 i hil
   obtain⟨hk1,hk2⟩:=HS.out.2.1 _ (List.getElem_mem hil)
   have htk:l.take (i+1)=l.take i++[l[i]'hil]:=by rw [List.take_succ_eq_append_getElem hil]
   generalize l[i]'hil=x at *
   have hx:=HW.out.2.2.ext
   have n1:=hx.cell m1
   have n2:=hx.cell m2
   have n3:=hx.cell m3
   have n4:=hx.cell m4
   have n5:=hx.cell m5
   obtain⟨K,hK⟩:∃ K,x.kids.length=K:=⟨_,rfl⟩
   rw [hK] at n5 m5 hk1
   have HX:=zz6 ⟨nw,n6,hk2,htk,hK,m5⟩
   clear nw n6 hk2 htk hx m1 m2 m3 m4 m5 hK
   go_upto_region 6 with (fail)
   obtain⟨W,hW⟩:∃ W,wr.alloc (nbox x (.slice bk K ck))=W:=⟨_,rfl⟩
   have hx4:Ext [] wr W:=by rw [←hW]; exact (Ext.refl [] wr).alloc _
   have hb4:W.heap[wr.heap.size]? = some (nbox x (.slice bk K ck)):=by rw [←hW]; exact heap_alloc_at _
   obtain⟨q,hq⟩:∃ q,wr.heap.size=q:=⟨_,rfl⟩
   rw [hq] at hb4
   rw [hq,hW]
   have S:=HW.out.2.2.new hx4 (Ob.one q (nbox x (.slice bk K ck))) hb4 (fun k hk=>by simp [Ob.one] at hk; omega)
   have q4:W.cell? ⟨q,4,none⟩=some (.slice bk K ck):=cellOf hb4 4
   have q4f:=freeOf hb4 4
   have S5:Sep w0 (W.setCell ⟨q,4,none⟩ (.slice none 0 0)) (oBx q x (.slice none 0 0) 0 []::oZs u5 Z2::L):=
    S.upd 0 (oBx q x (.slice none 0 0) 0 []) rfl ((Ext.refl _ _).setCell _ _ (.inl (by simp [Ob.one]))) (fun k hk=>.inl (by simpa [oBx,Ob.one,Value.ownBlock] using hk)) ⟨heap_setCell_same hb4 (i:=4) _,World.ownsRow_nil _ _ _ _,by simp [Value.ownBlock]⟩
   have HS5:=zz S5
   clear S S5 hx4 hb4 hq hW n1 n2 n3 n4 n5
   go_wp2_with fail
   clear q4 q4f
   go_loopg [8] K (fun g2 iv wx=>∃ (m:Nat) (kv:Value),g2+m=K∧iv=.int .i64 m∧Sep w0 wx (oBx q x kv m ((x.kids.take m).map (· + B))::oZs u5 Z2::L))
   case atStart=>exact⟨0,_,by omega,rfl,HS5.out⟩
   case round=>
    clear HS5
    obtain⟨m,kv,hgm,rfl,S⟩:=hrel
    have n5:=S.ext.cell HX.out.2.2.2.2.2
    obtain⟨hb,hown,hne⟩:wr.heap[q]? = some (nbox x kv)∧wr.ownsRow 0 3 1 kv m _∧kv.ownBlock≠some q:=S.get 0 rfl
    obtain⟨ao9,c9,rfl⟩:=row_slice hown
    by_cases hmK:m<K
    ·obtain⟨g2,rfl⟩:∃ g2,gk=g2+1:=⟨gk - 1,by omega⟩
     have hmz:(m:Int)<(K:Int):=by omega
     have hml:m<x.kids.length:=by rw [HX.out.2.2.2.2.1]; exact hmK
     obtain⟨b7,o7,rfl,hc7⟩:=HX.out.2.1 m hml
     obtain⟨h7a,h7b⟩:=HX.out.2.2.1 _ (List.getElem_mem hml)
     have ht7:x.kids.take (m+1)=x.kids.take m++[x.kids[m]'hml]:=by rw [List.take_succ_eq_append_getElem hml]
     generalize x.kids[m]'hml=c at *
     have e1:∀ y:ExS (Value.slice ao9 m c9).ownBlock.toList wr,y.w.cell? ⟨q,4,none⟩=some (.slice ao9 m c9):=fun y=>cellOf (y.heap hb (by simpa using hne)) 4
     have e2:∀ y:ExS (Value.slice ao9 m c9).ownBlock.toList wr,y.w.cell? ⟨bb,o+i*5+4,none⟩=some (.slice (some ⟨b7,o7,none⟩) K ck):=fun y=>cell_exs S HX.out.2.2.2.2.2 0 rfl (fun k hk=>List.mem_cons_of_mem _ hk) y
     have e3:∀ y:ExS (Value.slice ao9 m c9).ownBlock.toList wr,y.w.cell? ⟨b7,o7+m,none⟩=some (.int .i64 c):=fun y=>cell_exs S hc7 0 rfl (fun k hk=>List.mem_cons_of_mem _ hk) y
     have HT:=zz5 ⟨ht7,S,hb,hown,hne⟩
     clear ht7 S hown hb hne hc7
     go_upto_region 10 with (fail)
     refine wp_region_mid (C:=fun w'=>∃ y:ExS (Value.slice ao9 m c9).ownBlock.toList wr,w' = y.w) 12 2 (by kernel_rfl) (by kernel_rfl) ⟨ExS.mk _ ((Ext.refl _ wr).drew),rfl⟩ ?_
     simp only [List.take_succ_cons,List.take_zero,List.drop_succ_cons,List.drop_zero]
     repeat (go_big_quiet_step (fail))
     refine wpQuiet_nil ?_
     refine midW_step rfl (fun K9 hK9=>?_)
     go_wp2_with fail
     refine⟨⟨ExS.mk _ ((Ext.refl _ wr).drew.alloc _),rfl⟩,?_⟩
     refine midW_step rfl (fun K9 hK9=>?_)
     refine wp_append_lies _ _ _ 39 rfl 0 3 i0 _ 1 8 Tryz.underlying39 hif hz0 hz1 hz2 rfl (by decide) (.slice ao9 m c9) m _ rfl ((HT.out.2.2.2.1.alloc _).drew) ⟨wr.heap.size,0,none⟩ 1 1 [.int .i64 (c+B)] rfl rfl (cell_one_new _ _ _) (by simp [Value.oneCell']) (by decide) (by unfold maxLen; omega) (by omega) (by omega) (wr.heap.size+1) (by simp) ?_
     intro g6 cap2 w6 hown1 hgrow hat hlt6
     have hgrow:=grown_drew hgrow
     have hb7:w6.heap[q]? = some (nbox x (.slice ao9 m c9)):=grown_keep hgrow (heap_alloc_old _ HT.out.2.2.1) HT.out.2.2.2.2
     have P:=push_field HT.out.2.2.1 HT.out.2.2.2.2 hown1 hgrow hat 4
     refine hK9 _ _ ⟨⟨ExS.mk w6 (((Ext.refl _ wr).alloc _).grown hgrow (fun k hk=>.inl (by simp [hk]))),rfl⟩,?_⟩
     have HP:=zz P
     clear hK9 K9 e1 e2 e3 P hgrow hat hlt6 hown1
     refine midW_nil ?_
     have d0:=cellOf hb7 4
     have d1:=freeOf hb7 4
     clear hb7
     go_wp2_with fail
     refine NoPanic.normal ?_
     go_wp2_with fail
     go_roundg g2
     case measure=>omega
     case rel=>
      obtain⟨p1,p2,p3,p4,p5⟩:=HP.out
      refine⟨m+1,.slice (some ⟨g6,0,none⟩) (m+1) cap2,by omega,by go_num,HT.out.2.1.upd 0 (oBx q x (.slice (some ⟨g6,0,none⟩) (m+1) cap2) (m+1) ((x.kids.take (m+1)).map (· + B))) rfl p3 (fun k hk=>p5 k (by simpa [oBx,Value.ownBlock] using hk)) ⟨p1,?_,fun e=>p4 (by simpa [Value.ownBlock] using e)⟩⟩
      rw [HT.out.1,List.map_append,List.map_append]
      exact p2
    ·obtain rfl:m=K:=by omega
     have hfull:x.kids.take m=x.kids:=by rw [←HX.out.2.2.2.2.1,List.take_length]
     rw [hfull] at S hown
     have hz:ZsP wr u5 Z2:=S.get 1 rfl
     have hrow:=hz.row
     obtain⟨ao5,c5,rfl⟩:=row_slice hrow
     rw [HW.out.1] at hrow
     have q0:=cellOf hb 0
     have q1:=cellOf hb 1
     have q2:=cellOf hb 2
     have q3:=cellOf hb 3
     have q4:=cellOf hb 4
     have HZ:=zz4 ⟨S,hz,hrow,hown⟩
     rw [HW.out.1]
     clear S hz hrow hown hfull hne hb
     go_upto_region 11 with (fail)
     go_wp2_with (at_builtin; refine wpList_append_lies _ rfl _ _ 31 rfl 0 41 j0 _ 5 64 Tryz.underlying31 hjf hy0 hy1 hy2 rfl (by decide) (.slice ao5 i c5) i _ rfl (World.ownsRow.alloc HZ.out.2.2.1 _) ⟨wr.heap.size,0,none⟩ 1 1 (rowN [(x,.slice ao9 m c9)]) rfl rfl (cells_nd _ x (.slice ao9 m c9) _) (by simp [rowN,cellsN,Value.oneCell']) (by decide) (by unfold maxLen; omega) (by omega) (by omega) (wr.heap.size+1) (by simp) ?_; intro g6 cap2 w6 hown1 hgrow hat hlt6)
     have P:=push_local (cap:=cap2) (n:=i+1) hgrow hat
     have hg6:(Value.slice ao5 i c5).ownBlock=some g6∨wr.heap.size≤g6:=by
      rcases hat with h | h
      ·exact .inl h
      ·exact .inr (by omega)
     have HP:=zz3 ⟨P,hown1,hg6⟩
     clear P hown1 hgrow hat hlt6 hg6 q0 q1 q2 q3 q4
     go_roundg g
     case measure=>omega
     case rel=>
      obtain⟨S,hz,hrow,hown⟩:=HZ.out
      rw [HW.out.1] at S hz
      obtain⟨P,hown1,hg6⟩:=HP.out
      have hkd:∀ k∈(Value.slice ao9 m c9).ownBlock.toList,k∉zsF (.slice ao5 i c5) Z2:=fun k hk hk2=>S.apart 0 1 _ _ rfl rfl (by omega) k (List.mem_cons_of_mem _ hk) hk2
      have hkm:(moveN B x).kids.length=m:=by show (x.kids.map (· + B)).length=m; rw [List.length_map,HX.out.2.2.2.2.1]
      have S7:Sep w0 wr (oZk (.slice ao5 i c5) Z2 (.slice ao9 m c9) m (x.kids.map (· + B))::L):=
       Sep.glue S (j:=0) (b:=oZs (.slice ao5 i c5) Z2) rfl (oZk (.slice ao5 i c5) Z2 (.slice ao9 m c9) m (x.kids.map (· + B))) (fun k hk=>by
        rcases List.mem_append.1 hk with hk | hk
        ·exact .inr hk
        ·exact .inl (List.mem_cons_of_mem _ hk)) ⟨hz,hown,hkd⟩
      have hkf:kF [(moveN B x,Value.slice ao9 m c9)]=(Value.slice ao9 m c9).ownBlock.toList:=by simp [kF]
      have hmore:=ZsP.more (Z2:=[(moveN B x,Value.slice ao9 m c9)]) (m:=i+1) hz (fun p hp=>by
       obtain rfl:p=(moveN B x,Value.slice ao9 m c9):=by simpa using hp
       show wr.ownsRow 0 3 1 _ (moveN B x).kids.length _
       rw [hkm]
       exact hown) (by rw [hkf]; cases (Value.slice ao9 m c9).ownBlock <;> simp) (fun k hk=>hkd k (by rw [hkf] at hk; exact hk)) (fun p hp=>by
       obtain rfl:p=(moveN B x,Value.slice ao9 m c9):=by simpa using hp
       have hnw:=HX.out.1
       exact⟨hnw.n,hnw.s,by show (moveN B x).kids.length≤_; rw [hkm]; omega,fun k hk=>by
        obtain⟨c,hc,rfl⟩:=List.mem_map.1 hk
        exact HX.out.2.2.1 c hc⟩) P.1 (by rw [HW.out.1]; rfl) (by rw [rowN_one]; rw [rowN_one] at hown1; exact hown1) hg6
      have S8:=S7.upd 0 (oZs (.slice (some ⟨g6,0,none⟩) (i+1) cap2) (Z2++[(moveN B x,Value.slice ao9 m c9)])) rfl (P.1.mono (fun k _ hk=>List.mem_append_left _ (List.mem_append_left _ hk))) (fun k hk=>by
       show k∈zsF (.slice ao5 i c5) Z2++_∨_
       rcases List.mem_append.1 hk with hk | hk
       ·rcases P.2 k hk with h | h
        ·exact .inl (List.mem_append_left _ (List.mem_append_left _ h))
        ·exact .inr h
       ·rw [kF_append,hkf] at hk
        rcases List.mem_append.1 hk with hk | hk
        ·exact .inl (List.mem_append_left _ (List.mem_append_right _ hk))
        ·exact .inl (List.mem_append_right _ hk)) hmore
      exact⟨i+1,Z2++[(moveN B x,Value.slice ao9 m c9)],by omega,by go_num,by rw [List.length_append,HW.out.1]; rfl,by rw [List.map_append,HW.out.2.1,HX.out.2.2.2.1,List.map_append]; rfl,S8⟩
  ·obtain rfl:i=n:=by omega
   go_wp2_with fail
   go_ret
   refine⟨_,Z2,rfl,?_,HW.out.2.2⟩
   rw [HW.out.2.1,←HS.out.2.2.1,List.take_length]
theorem push_plain17 {w w1:World} {g cap n:Nat} {v:Value} (hgrow:w.grownBy w1 v.ownBlock) (hat:v.ownBlock=some g∨g=w.heap.size) :
  Ext v.ownBlock.toList w w1∧Fr w v.ownBlock.toList (Value.slice (some ⟨g,0,none⟩) n cap).ownBlock.toList:=by
 refine⟨(Ext.refl _ w).grown hgrow (fun k hk=>.inl (by simp [hk])),fun q hq=>?_⟩
 obtain rfl:q=g:=by simpa [Value.ownBlock] using hq
 rcases hat with h | h
 ·exact .inl (by simp [h])
 ·exact .inr (by omega)
theorem addr_add (g j:Nat):(⟨g,0,none⟩:Addr).add j=⟨g,j,none⟩:=by unfold Addr.add; split <;> simp_all
theorem src_zs {w:World} {u:Value} {Z:List Zd} (h:ZsP w u Z) (hZ:0<Z.length):Src Tryz.prog 5 31 u Z.length (rowN Z) w:=by
 obtain⟨g,cap,rfl⟩:=row_form h.row hZ
 refine Src.ofSlice w Tryz.underlying31 _ _ cap (rowN Z) (rowN_len Z) (fun j v hj=>?_) (fun v hv=>?_)
 ·rw [addr_add]
  exact row_cell h.row hj
 ·obtain⟨p,hp,hv⟩:=List.mem_flatMap.1 hv
  obtain⟨ao,c,hkv⟩:=row_slice (h.kids p hp)
  unfold cellsN at hv
  rw [hkv] at hv
  simp only [List.mem_cons,List.not_mem_nil,or_false] at hv
  rcases hv with rfl | rfl | rfl | rfl | rfl <;> rfl
def oZz (v:Value) (Z:List Zd) (u:Value) (Y:List Zd):Ob where
 F:=zsF v Z++zsF u Y
 P:=fun w=>ZsP w v Z∧ZsP w u Y∧∀ k∈zsF u Y,k∉zsF v Z
 ok:=fun h hx hS=>⟨h.1.ext hx (fun k hk=>hS k (List.mem_append_left _ hk)),h.2.1.ext hx (fun k hk=>hS k (List.mem_append_right _ hk)),h.2.2⟩
 lt:=fun h k hk=>by
  rcases List.mem_append.1 hk with hk | hk
  ·exact h.1.lt k hk
  ·exact h.2.1.lt k hk
theorem put17_walk (kind:Int) (v:Value) (ls:List (List Nd)) (w:World) (h:TreesAt w v ls) (hn:ls.length≤65536) (hls:∀ l∈ls,∀ x∈l,x.s.size≤1000000) (hck:∀ l∈ls,checkN l=0) :
  Calls Tryz.prog 55 #[.int .i64 kind,v] w fun e w'=>∃ v2,e=.returned (.tuple #[v2,.int .i64 (underN kind ls).2])∧Ext [] w w'∧NodesAt w' v2 (underN kind ls).1:=by
 obtain⟨i0,hif,hz0,hz1,hz2⟩:=info_parts infoInt
 obtain⟨j0,hjf,hy0,hy1,hy2⟩:=info_parts infoNode
 obtain⟨base,cap,rfl,-,hT⟩:=h
 obtain⟨n,hln⟩:∃ n,ls.length=n:=⟨_,rfl⟩
 obtain⟨R,hR⟩:∃ R,underN kind ls=R:=⟨_,rfl⟩
 obtain⟨R1,R2⟩:=R
 have HH:=zz5 ⟨hT,hls,hck,hln,hR⟩
 rw [hR]
 rw [hln] at hn ⊢
 clear hT hls hck hln hR
 go_enter Tryz.func55,Tryz.ntmps55
 go_wp2_with fail
 obtain⟨W1,hW1⟩:∃ W1,w.alloc (Obj.cells #[.int .i64 kind,.int .i64 0,.int .i64 0,.string ⟨#[]⟩,.slice none 0 0] 41)=W1:=⟨_,rfl⟩
 have hx1:Ext [] w W1:=by rw [←hW1]; exact (Ext.refl [] w).alloc _
 have hb1:W1.heap[w.heap.size]? = some (.cells #[.int .i64 kind,.int .i64 0,.int .i64 0,.string ⟨#[]⟩,.slice none 0 0] 41 (0,0)):=by rw [←hW1]; exact heap_alloc_at _
 rw [hW1]
 obtain⟨g0,hg0⟩:∃ g0,w.heap.size=g0:=⟨_,rfl⟩
 rw [hg0] at hb1 ⊢
 have S:=(Sep.start w).new hx1 (oZs (.slice (some ⟨g0,0,none⟩) 1 1) [(rootN kind [],.slice none 0 0)])
  ⟨⟨rfl,.inr ⟨g0,1,#[.int .i64 kind,.int .i64 0,.int .i64 0,.string ⟨#[]⟩,.slice none 0 0],rfl,Nat.zero_le _,hb1,Nat.le_refl _,by decide,rfl,rfl⟩⟩,fun p hp=>by
   obtain rfl:p=(rootN kind [],.slice none 0 0):=by simpa using hp
   exact World.ownsRow_nil _ _ _ _,by simp [zsF,kF,Value.ownBlock],fun p hp=>by
   obtain rfl:p=(rootN kind [],.slice none 0 0):=by simpa using hp
   exact⟨⟨by show (-9223372036854775808:Int)≤0; omega,by show (0:Int)≤9223372036854775807; omega⟩,by show (0:Nat)≤_; omega,by show (0:Nat)≤_; omega,fun k hk=>by cases hk⟩⟩
  (fun k hk=>by simp [oZs,zsF,kF,Value.ownBlock] at hk; omega)
 have HS:=zz S
 clear S hb1 hx1 hW1 hg0
 go_loopg [6,7] n (fun g ov iv wr=>∃ (i:Nat) (kv:Value) (K:List Int) (Z2:List Zd),g+i=n∧iv=.int .i64 i∧K.length=i∧Z2.length≤65535∧(∀ p∈Z2,p.1.s.size≤1000000)∧underF kind (ls.drop i) K (Z2.map (·.1))=(R1,R2)∧Sep w wr [oZs ov ((rootN kind K,kv)::Z2)])
 case atStart=>exact⟨0,_,[],[],by omega,rfl,rfl,by simp,by simp,HH.out.2.2.2.2,HS.out⟩
 case round=>
  clear HS
  obtain⟨i,kv,K,Z2,hgi,rfl,hK,hZ,hsz,hR,S⟩:=hrel
  have hP:ZsP wr u6 ((rootN kind K,kv)::Z2):=S.get 0 rfl
  obtain⟨g5,c5,rfl⟩:=row_form hP.row (by simp)
  obtain⟨m,hm⟩:∃ m,Z2.length=m:=⟨_,rfl⟩
  rw [List.length_cons] at S hP ⊢
  rw [hm] at hZ
  by_cases hlt:i<n
  ·obtain⟨g,rfl⟩:∃ g,gk=g+1:=⟨gk - 1,by omega⟩
   have hltz:(i:Int)<(n:Int):=by omega
   have hil:i<ls.length:=by rw [HH.out.2.2.2.1]; exact hlt
   rw [drop_at ls i hil,underF,List.length_map,hm] at hR
   obtain⟨b7,o7,vk,rfl,hc0,hN⟩:=HH.out.1 i hil
   have hc:=S.ext.cell hc0
   have hx0:=HH.out.2.2.1 _ (List.getElem_mem hil)
   have hxs:=HH.out.2.1 _ (List.getElem_mem hil)
   generalize ls[i]'hil=x at *
   obtain⟨hxl,hxk⟩:=checked_kids hx0
   have hxp:=(check_zero hx0).1
   have HN:=zz hN
   obtain⟨xb,xc,rfl,-,-⟩:=hN
   obtain⟨X,hX⟩:∃ X,x.length=X:=⟨_,rfl⟩
   rw [hX] at hR hc hc0 hxl HN hxp
   have HW:=zz9 ⟨hP,S,hR,hK,hsz,hm,hX,hxs,hxk⟩
   rw [hm]
   clear hP S hR hsz hm hX hxs hxk hx0
   by_cases hbig:65536<1+m+X
   ·have hbz:(65536:Int)<(m:Int)+1+(X:Int):=by omega
    have hRv:=HW.out.2.2.1
    rw [if_pos hbig] at hRv
    injection hRv with r1 r2
    subst r1 r2
    go_wp2_with fail
    go_ret2
    exact⟨_,rfl,HW.out.2.1.ext,none,0,rfl,by simp,fun k hk=>by cases hk⟩
   ·have hbz:¬ (65536:Int)<(m:Int)+1+(X:Int):=by omega
    have hRv:=HW.out.2.2.1
    rw [if_neg hbig] at hRv
    have HRV:=zz hRv
    clear hRv
    have hkv:wr.ownsRow 0 3 1 kv i (K.map iz):=by
     have h0:=HW.out.1.kids (rootN kind K,kv) (by simp)
     rw [show (rootN kind K).kids.length=i from hK] at h0
     exact h0
    obtain⟨ao,c6,rfl⟩:=row_slice hkv
    have hP:ZsP wr (.slice (some ⟨g5,0,none⟩) (Z2.length+1) c5) ((rootN kind K,.slice ao i c6)::Z2):=HW.out.1
    have hk5:(Value.slice ao i c6).ownBlock≠some g5:=fun e=>by
     have hd:=hP.dup
     unfold zsF at hd
     exact (List.nodup_append.1 hd).2.2 g5 (by simp [Value.ownBlock]) g5 (kF_mem (p:=(rootN kind K,.slice ao i c6)) (by simp) e) rfl
    obtain⟨cur,hob,-,-,-,ht⟩:=row_open hP.row
    have k4:cur[4]? = some (.slice ao i c6):=by
     have h4:(rowN ((rootN kind K,Value.slice ao i c6)::Z2))[4]? = some (.slice ao i c6):=rfl
     rw [←ht,List.getElem?_take] at h4
     split at h4
     ·simpa using h4
     ·cases h4
    have e4:wr.cell? ⟨g5,4,none⟩=some (.slice ao i c6):=by rw [cellOf hob,k4]
    have HK:=zz5 ⟨hkv,hP,hk5,k4,hob⟩
    clear hkv hP hk5 ht k4 hob
    go_upto_region 8 with (at_builtin; refine wpList_append_lies _ rfl _ _ 39 rfl 0 3 i0 _ 1 8 Tryz.underlying39 hif hz0 hz1 hz2 rfl (by decide) (.slice ao i c6) i _ rfl (World.ownsRow.alloc HK.out.1 _) ⟨wr.heap.size,0,none⟩ 1 1 [.int .i64 ((m:Int)+1)] rfl rfl (cell_one_new _ _ _) (by simp [Value.oneCell']) (by decide) (by unfold maxLen; omega) (by omega) (by omega) (wr.heap.size+1) (by simp) ?_; intro g6 cap2 w6 hown1 hgrow hat hlt6; have hb6:w6.heap[g5]? = some (.cells cur 41 (0,0)):=grown_keep hgrow (heap_alloc_old _ HK.out.2.2.2.2) HK.out.2.2.1; have f4:=freeOf hb6 4; have d4:w6.cell? ⟨g5,4,none⟩=some (.slice ao i c6):=(by rw [cellOf hb6,HK.out.2.2.2.1]); have HG:=zz3 ⟨hown1,hgrow,hat⟩; clear hown1 hgrow hat hlt6 hb6)
    have hkid:=ZsP.kid (x:=rootN kind K) (c:=(m:Int)+1) HK.out.2.1 (by rw [show (rootN kind K).kids.length=i from hK]; exact HG.out.1) HG.out.2.1 HG.out.2.2 (by omega) (by rw [show (rootN kind K).kids.length=i from hK]; omega)
    rw [show (rootN kind K).kids.length=i from hK] at hkid
    have HKID:=zz hkid
    clear d4 f4 hkid e4 hc
    have S2:Sep w (w6.setCell ⟨g5,4,none⟩ (.slice (some ⟨g6,0,none⟩) (i+1) cap2)) [oZs (.slice (some ⟨g5,0,none⟩) (Z2.length+1) c5) ((rootN kind (K++[(m:Int)+1]),.slice (some ⟨g6,0,none⟩) (i+1) cap2)::Z2)]:=HW.out.2.1.upd 0 (oZs (.slice (some ⟨g5,0,none⟩) (Z2.length+1) c5) ((rootN kind (K++[(m:Int)+1]),.slice (some ⟨g6,0,none⟩) (i+1) cap2)::Z2)) rfl HKID.out.2.1 HKID.out.2.2 HKID.out.1
    obtain⟨W7,hW7⟩:∃ W7,w6.setCell ⟨g5,4,none⟩ (.slice (some ⟨g6,0,none⟩) (i+1) cap2)=W7:=⟨_,rfl⟩
    rw [hW7] at S2 ⊢
    obtain⟨Zr,hZr⟩:∃ Zr,(rootN kind (K++[(m:Int)+1]),Value.slice (some ⟨g6,0,none⟩) (i+1) cap2)::Z2=Zr:=⟨_,rfl⟩
    rw [hZr] at S2
    have hZrl:Zr.length=m+1:=by rw [←hZr,List.length_cons,HW.out.2.2.2.2.2.1]
    have hml:=HW.out.2.2.2.2.2.1
    rw [hml] at S2
    have hc:=S2.ext.cell hc0
    have hXl:=HW.out.2.2.2.2.2.2.1
    have hXn:NodesAt w (.slice xb X xc) x:=HN.out
    have HA:=zz (moved_walk w W7 _ _ x ((m:Int)+1) S2 hXn (by rw [hXl]; omega) (fun y hy=>by
     obtain⟨q1,q2⟩:=HW.out.2.2.2.2.2.2.2.2 y hy
     exact⟨q1,fun k hk=>by have:=q2 k hk; omega⟩))
    have HZ:=zz2 ⟨hZr,hZrl⟩
    clear hW7 HKID S2 hXl hml hXn hZr hZrl HG
    go_wp2_with fail
    refine HA.out.mono ?_
    rintro ee w8 ⟨v8,Z3,rfl,hZ3,S3⟩
    have hl3:Z3.length=X:=by have:=congrArg List.length hZ3; rw [List.length_map,List.length_map,HW.out.2.2.2.2.2.2.1] at this; exact this
    have h8:ZsP w8 v8 Z3:=S3.get 0 rfl
    have h9:ZsP w8 (.slice (some ⟨g5,0,none⟩) (m+1) c5) Zr:=S3.get 1 rfl
    have hsrc:=src_zs h8 (by omega)
    rw [hl3] at hsrc
    have hown:=h9.row
    rw [HZ.out.2] at hown
    have HS3:=zz7 ⟨hZ3,S3,hl3,h8,h9,hsrc,hown⟩
    clear hZ3 S3 HA hl3 h8 h9 hsrc hown hc
    go_wp2_with (at_builtin; refine wpList_append_src _ rfl _ _ 31 31 rfl 0 41 j0 _ 5 64 Tryz.underlying31 hjf hy0 hy1 hy2 rfl (by decide) (.slice (some ⟨g5,0,none⟩) (m+1) c5) (m+1) _ rfl HS3.out.2.2.2.2.2.2 v8 X _ rfl HS3.out.2.2.2.2.2.1 hxp (by unfold maxLen; omega) (by omega) (by omega) ?_; intro g9 cap9 w9 hown1 hgrow1 hat1 hlt1; have P1:=push_plain17 (cap:=cap9) (n:=m+1+X) hgrow1 hat1; have HG:=zz3 ⟨hown1,P1,hat1⟩; clear hown1 hgrow1 hat1 hlt1 P1)
    go_roundg g
    case measure=>omega
    case rel=>
     obtain⟨hZ3,S3,hl3,h8,h9,-,-⟩:=HS3.out
     obtain⟨hown1,P,hat1⟩:=HG.out
     have hdj:∀ k∈zsF v8 Z3,k∉zsF (.slice (some ⟨g5,0,none⟩) (m+1) c5) Zr:=fun k hk hk2=>S3.apart 0 1 _ _ rfl rfl (by omega) k hk hk2
     have S4:Sep w w8 [oZz (.slice (some ⟨g5,0,none⟩) (m+1) c5) Zr v8 Z3]:=
      Sep.glue S3 (j:=0) (b:=oZs (.slice (some ⟨g5,0,none⟩) (m+1) c5) Zr) rfl (oZz (.slice (some ⟨g5,0,none⟩) (m+1) c5) Zr v8 Z3) (fun k hk=>by
       rcases List.mem_append.1 hk with hk | hk
       ·exact .inr hk
       ·exact .inl hk) ⟨h9,h8,hdj⟩
     have hg9:(Value.slice (some ⟨g5,0,none⟩) (m+1) c5).ownBlock=some g9∨w8.heap.size≤g9:=by
      rcases hat1 with h | h
      ·exact .inl h
      ·exact .inr (by omega)
     have hdu:(kF Z3).Nodup:=by
      have:=h8.dup
      unfold zsF at this
      exact (List.nodup_append.1 this).2.1
     have hmore:=ZsP.more (m:=m+1+X) h9 h8.kids hdu (fun k hk=>hdj k (List.mem_append_right _ hk)) h8.wf P.1 (by rw [HZ.out.2,hl3]) hown1 hg9
     have S5:=S4.upd 0 (oZs (.slice (some ⟨g9,0,none⟩) (m+1+X) cap9) (Zr++Z3)) rfl (P.1.mono (fun k _ hk=>List.mem_append_left _ (List.mem_append_left _ hk))) (fun k hk=>by
      show k∈zsF _ Zr++zsF v8 Z3∨_
      rcases List.mem_append.1 hk with hk | hk
      ·rcases P.2 k hk with h | h
       ·exact .inl (List.mem_append_left _ (List.mem_append_left _ h))
       ·exact .inr h
      ·rw [kF_append] at hk
       rcases List.mem_append.1 hk with hk | hk
       ·exact .inl (List.mem_append_left _ (List.mem_append_right _ hk))
       ·exact .inl (List.mem_append_right _ (List.mem_append_right _ hk))) hmore
     have hR2:=HRV.out
     rw [show ((1+m:Nat):Int)=(m:Int)+1 by omega,←hZ3,←List.map_append] at hR2
     rw [←HZ.out.1,List.cons_append] at S5
     refine⟨i+1,_,K++[(m:Int)+1],Z2++Z3,by omega,by go_num,by rw [List.length_append,hK]; rfl,by rw [List.length_append,HW.out.2.2.2.2.2.1,hl3]; omega,fun p hp=>?_,hR2,S5⟩
     rcases List.mem_append.1 hp with hp | hp
     ·exact HW.out.2.2.2.2.1 p hp
     ·have:p.1∈x.map (moveN ((m:Int)+1)):=by rw [←hZ3]; exact List.mem_map_of_mem hp
      obtain⟨y,hy,he⟩:=List.mem_map.1 this
      rw [←he]
      exact HW.out.2.2.2.2.2.2.2.1 y hy
  ·obtain rfl:gk=0:=by omega
   rw [List.drop_eq_nil_of_le (by rw [HH.out.2.2.2.1]; omega),underF] at hR
   have HC:=zz (check17_walk _ _ wr hP.nodes (by rw [List.length_map,List.length_cons,hm]; omega) (fun x hx=>by
    obtain⟨p,hp,rfl⟩:=List.mem_map.1 hx
    rcases List.mem_cons.1 hp with rfl | hp
    ·show (0:Nat)≤_; omega
    ·exact hsz p hp))
   have HN:=zz3 ⟨hP.nodes,S.ext,hR⟩
   rw [List.map_cons] at HC HN
   rw [hm] at HC HN
   rw [hm]
   obtain⟨Tr,hTr⟩:∃ Tr,rootN kind K::Z2.map (·.1)=Tr:=⟨_,rfl⟩
   simp only [hTr] at HC HN
   clear hP S hR hm hsz hK hTr
   obtain⟨e,he⟩:∃ e,checkN Tr=e:=⟨_,rfl⟩
   rw [he] at HC HN
   have hlt' : ¬ (i:Int)<(n:Int):=by omega
   clear he
   go_wp2_with fail
   refine HC.out.mono ?_
   rintro ee w3 ⟨rfl,hx3⟩
   have HX3:=zz hx3
   clear hx3 HC
   by_cases he:e=0
   ·subst he
    have hRv:=HN.out.2.2
    rw [if_pos rfl] at hRv
    injection hRv with r1 r2
    subst r1 r2
    go_wp2_with fail
    go_ret2
    exact⟨_,rfl,HN.out.2.1.trans HX3.out,HN.out.1.ext HX3.out⟩
   ·have heb:(e != 0)=true:=bne_iff_ne.2 he
    have hRv:=HN.out.2.2
    rw [if_neg he] at hRv
    injection hRv with r1 r2
    subst r1 r2
    go_wp2_with fail
    go_ret2
    exact⟨_,rfl,HN.out.2.1.trans HX3.out,none,0,rfl,by simp,fun k hk=>by cases hk⟩
theorem array17_walk (v:Value) (ls:List (List Nd)) (w:World) (h:TreesAt w v ls) (hn:ls.length≤65536) (hls:light6 ls) :
  Calls Tryz.prog 40 #[v] w fun e w'=>∃ v2,e=.returned (.tuple #[v2,.int .i64 (arrayN ls).2])∧Ext [] w w'∧NodesAt w' v2 (arrayN ls).1:=by
 have HU:=zz (fun w1 (hx:Ext [] w w1) (h0:firstN ls=0)=>put17_walk 7 v ls w1 (h.ext hx) hn (fun l hl=>(hls l hl).2) (firstN_zero h0))
 obtain⟨base,cap,rfl,-,hT⟩:=h
 obtain⟨n,hln⟩:∃ n,ls.length=n:=⟨_,rfl⟩
 obtain⟨F,hF⟩:∃ F,firstN ls=F:=⟨_,rfl⟩
 obtain⟨R,hR⟩:∃ R,arrayN ls=R:=⟨_,rfl⟩
 have HH:=zz5 ⟨hT,hls,hln,hF,hR⟩
 rw [hR]
 rw [hln] at hn HU ⊢
 clear hT hls hln hF hR
 go_enter Tryz.func40,Tryz.ntmps40
 go_wp2_with fail
 go_loopg [4] n (fun g iv wr=>∃ i:Nat,g+i=n∧iv=.int .i64 i∧firstN (ls.drop i)=F∧Ext [] w wr)
 case atStart=>exact⟨0,by omega,rfl,HH.out.2.2.2.1,Ext.refl _ _⟩
 case round=>
  obtain⟨i,hgi,rfl,hR,hx⟩:=hrel
  by_cases hlt:i<n
  ·obtain⟨g,rfl⟩:∃ g,gk=g+1:=⟨gk - 1,by omega⟩
   have hltz:(i:Int)<(n:Int):=by omega
   have hil:i<ls.length:=by rw [HH.out.2.2.1]; exact hlt
   rw [drop_at ls i hil,firstN] at hR
   obtain⟨b,o,vk,rfl,hc,hN⟩:=HH.out.1.ext hx i hil
   obtain⟨h1,h2⟩:=HH.out.2.1 _ (List.getElem_mem hil)
   have HC:=zz (check17_walk vk _ wr hN h1 h2)
   have HX:=zz2 ⟨hx,hR⟩
   clear hx hR hN h1 h2
   generalize checkN (ls[i]'hil)=e at HC HX
   go_wp2_with fail
   refine HC.out.mono ?_
   rintro ee w2 ⟨rfl,hx2⟩
   have HX2:=zz (HX.out.1.trans hx2)
   clear hx2 HC hc
   by_cases he:e=0
   ·subst he
    go_wp2_with fail
    go_roundg g
    case measure=>omega
    case rel=>exact⟨i+1,by omega,by go_num,by simpa using HX.out.2,HX2.out⟩
   ·have heb:(e != 0)=true:=bne_iff_ne.2 he
    have hFe:F=e:=by have:=HX.out.2; rw [if_neg he] at this; exact this.symm
    have hR:R=([],e):=by rw [←HH.out.2.2.2.2,arrayN,HH.out.2.2.2.1,hFe,if_neg he]
    subst hR
    go_wp2_with fail
    go_ret2
    exact⟨_,rfl,HX2.out,none,0,rfl,by simp,fun k hk=>by cases hk⟩
  ·obtain rfl:gk=0:=by omega
   have hF0:F=0:=by rw [←hR,List.drop_eq_nil_of_le (by rw [HH.out.2.2.1]; omega)]; rfl
   have hR2:R=underN 7 ls:=by rw [←HH.out.2.2.2.2,arrayN,HH.out.2.2.2.1,if_pos hF0]
   have HP:=zz (HU.out _ hx (by rw [HH.out.2.2.2.1,hF0]))
   rw [←hR2] at HP
   have HX:=zz hx
   clear hx hR hR2
   go_wp2_with fail
   refine HP.out.mono ?_
   rintro ee w2 ⟨v2,rfl,hx2,hN⟩
   have HX2:=zz2 ⟨HX.out.trans hx2,hN⟩
   clear hx2 hN HP HX
   go_wp2_with fail
   go_ret2
   exact⟨_,rfl,HX2.out.1,HX2.out.2⟩
def nmK (names:List ByteArray) (k:Nat):ByteArray:=names.getD k ⟨#[]⟩
theorem nmK_at {names:List ByteArray} {k:Nat} (h:k<names.length):nmK names k=names[k]:=by rw [nmK,List.getD_eq_getElem?_getD,List.getElem?_eq_getElem h]; rfl
structure Ord (names:List ByteArray) (i:Nat) (O:List Nat):Prop where
 perm:O.Perm (List.range i)
 up:O.Pairwise (fun a b=>ltB (nmK names a) (nmK names b))
theorem Ord.len {names:List ByteArray} {i:Nat} {O:List Nat} (h:Ord names i O):O.length=i:=by rw [h.perm.length_eq,List.length_range]
theorem Ord.lt {names:List ByteArray} {i:Nat} {O:List Nat} (h:Ord names i O):∀ k∈O,k<i:=fun _ hk=>List.mem_range.1 (h.perm.mem_iff.1 hk)
theorem Ord.nil (names:List ByteArray):Ord names 0 []:=⟨List.Perm.refl _,List.Pairwise.nil⟩
theorem Ord.ins {names:List ByteArray} {i k:Nat} {O:List Nat} (h:Ord names i O) (hk:k≤O.length) (hhi:∀ x∈O.drop k,ltB (nmK names i) (nmK names x)) (hlo:k=0∨∃ o,O[k - 1]? = some o∧ltB (nmK names o) (nmK names i)) :
  Ord names (i+1) (O.take k++i::O.drop k):=by
 refine⟨?_,?_⟩
 ·refine List.perm_middle.trans ?_
  rw [List.take_append_drop,List.range_succ]
  exact (h.perm.cons i).trans (List.perm_append_singleton i _).symm
 ·have hu:=h.up
  rw [←List.take_append_drop k O,List.pairwise_append] at hu
  obtain⟨u1,u2,u3⟩:=hu
  have hta:∀ a∈O.take k,ltB (nmK names a) (nmK names i):=fun a ha=>by
   rcases hlo with rfl | ⟨o,ho,hlt⟩
   ·simp at ha
   ·by_cases hk0:k=0
    ·subst hk0; simp at ha
    ·obtain⟨hol,hoe⟩:=List.getElem?_eq_some_iff.1 ho
     have ht:O.take k=O.take (k - 1)++[o]:=by
      have:=List.take_succ_eq_append_getElem hol
      rw [show k - 1+1=k by omega,hoe] at this
      exact this
     rw [ht] at ha u1
     rcases List.mem_append.1 ha with ha | ha
     ·exact ltB_trans ((List.pairwise_append.1 u1).2.2 a ha o (by simp)) hlt
     ·obtain rfl:a=o:=by simpa using ha
      exact hlt
  rw [List.pairwise_append]
  refine⟨u1,List.pairwise_cons.2 ⟨hhi,u2⟩,fun a ha b hb=>?_⟩
  rcases List.mem_cons.1 hb with rfl | hb
  ·exact hta a ha
  ·exact u3 a ha b hb
theorem zip_fst {names:List ByteArray} {ls:List (List Nd)} (hl:names.length=ls.length):(names.zip ls).map (·.1)=names:=List.map_fst_zip (by omega)
theorem Ord.twice {names:List ByteArray} {ls:List (List Nd)} {i o:Nat} {O:List Nat} (h:Ord names i O) (hl:names.length=ls.length) (hi:i<names.length) (ho:o∈O) (he:nmK names o=nmK names i):dictN (names.zip ls)=([],6):=by
 refine dictN_twice fun hn=>?_
 rw [zip_fst hl] at hn
 have hoi:=h.lt o ho
 rw [nmK_at hi,nmK_at (by omega)] at he
 exact List.pairwise_iff_getElem.1 hn o i (by omega) hi hoi he
def ordS (names:List ByteArray) (ls:List (List Nd)) (O:List Nat):List Ent:=O.map fun k=>(nmK names k,ls.getD k [])
theorem Ord.done {names:List ByteArray} {ls:List (List Nd)} {O:List Nat} (hl:names.length=ls.length) (h:Ord names names.length O):dictN (names.zip ls)=underN 8 (allN (ordS names ls O))∧∀ p∈ordS names ls O,p∈names.zip ls:=by
 have hz:names.zip ls=ordS names ls (List.range names.length):=by
  refine List.ext_getElem (by rw [ordS,List.length_map,List.length_range,List.length_zip]; omega) fun k h1 h2=>?_
  rw [List.length_zip] at h1
  rw [List.getElem_zip]
  simp only [ordS,List.getElem_map,List.getElem_range]
  rw [nmK_at (by omega),List.getD_eq_getElem?_getD,List.getElem?_eq_getElem (by omega)]
  rfl
 have hp:(ordS names ls O).Perm (names.zip ls):=by rw [hz]; exact h.perm.map _
 have hu:Up (ordS names ls O):=by
  show List.Pairwise _ _
  rw [ordS,List.pairwise_map]
  exact h.up
 have hnd:((names.zip ls).map (·.1)).Nodup:=(hp.map (·.1)).nodup_iff.1 (up_nodup hu)
 have hs:srt (names.zip ls)=ordS names ls O:=(srt_eq hnd hp.symm).trans (srt_self hu)
 refine⟨?_,fun p hq=>hp.mem_iff.1 hq⟩
 have ht:=(twice_iff (names.zip ls)).2 hnd
 rw [dictN,ht,if_neg (by simp)]
 show underN 8 (allN (srt (names.zip ls)))=_
 rw [hs]
def ndC (O:List Nat):List Value:=O.map fun k=>.int .i64 (k:Nat)
def oOrd (v:Value) (O:List Nat):Ob:=oSl 3 1 v O.length (ndC O)
theorem ndC_len (O:List Nat):(ndC O).length=O.length:=List.length_map _
theorem trees_hd {w:World} {base:Option Addr} {ls:List (List Nd)} (h:TreesIn w base ls):∃ hd:Nat→Option Addr×Nat×Nat,∀ k (_:k<ls.length),∃ b o,base=some ⟨b,o,none⟩∧w.cell? ⟨b,o+k,none⟩=some (slC (hd k))∧NodesAt w (slC (hd k)) (ls.getD k []):=by
 have each:∀ i,i<ls.length→∃ q:Option Addr×Nat×Nat,∃ b o,base=some ⟨b,o,none⟩∧w.cell? ⟨b,o+i,none⟩=some (slC q)∧NodesAt w (slC q) (ls.getD i []):=fun i hi=>by
  obtain⟨b,o,vk,h1,h2,h3⟩:=h i hi
  have hN:=h3
  obtain⟨xb,xc,rfl,-,-⟩:=h3
  refine⟨(xb,(ls[i]'hi).length,xc),b,o,h1,h2,?_⟩
  rw [List.getD_eq_getElem?_getD,List.getElem?_eq_getElem hi]
  exact hN
 obtain⟨f,hf⟩:=Go.Deep.choose_lt each
 exact⟨f,fun k hk=>hf k hk⟩
theorem one_row {w:World} {e:TypeId} {u:Value}:(w.alloc (.cells #[u] e)).ownsRow 0 e 1 (.slice (some ⟨w.heap.size,0,none⟩) 1 1) 1 [u]:=
 ⟨by simp,.inr ⟨w.heap.size,1,#[u],rfl,Nat.zero_le _,heap_alloc_at _,Nat.le_refl _,by unfold maxLen; omega,by simp,by simp⟩⟩
def TwiceIs (c:Value) (A B:Prop):Prop:=(c=.bool true∧A)∨(c=.bool false∧B)
theorem dict17X_walk (u v:Value) (names:List ByteArray) (ls:List (List Nd)) (w:World) (hu:StrsAt w u names) (hv:TreesAt w v ls) (hn:names.length≤32768) (hnl:ls.length≤1048576) (hns:∀ s∈names,s.size≤1000000) (hls:light6 ls) :
  Calls Tryz.prog 18 #[u,v] w fun e w'=>∃ v2,e=.returned (.tuple #[v2,.int .i64 (dictionN names ls).2])∧Ext [] w w'∧NodesAt w' v2 (dictionN names ls).1:=by
 obtain⟨i0,hif,hz0,hz1,hz2⟩:=info_parts infoInt
 obtain⟨j0,hjf,hy0,hy1,hy2⟩:=info_parts infoNodes
 obtain⟨R,hR⟩:∃ R,dictionN names ls=R:=⟨_,rfl⟩
 rw [hR]
 rw [dictionN] at hR
 obtain⟨ub,uc,rfl,-,hU⟩:=hu
 obtain⟨vb,vc,rfl,-,hT⟩:=hv
 obtain⟨n,hnn⟩:∃ n,names.length=n:=⟨_,rfl⟩
 obtain⟨m,hm⟩:∃ m,ls.length=m:=⟨_,rfl⟩
 obtain⟨BAD,hbad⟩:∃ BAD,names.any (fun s=>decide (nameN s≠0))=BAD:=⟨_,rfl⟩
 obtain⟨F,hF⟩:∃ F,firstN ls=F:=⟨_,rfl⟩
 obtain⟨hd,hhd⟩:=trees_hd hT
 rw [hnn,hm,hbad,hF] at hR
 have hUK:∀ k,k<names.length→∃ b o,ub=some ⟨b,o,none⟩∧w.cell? ⟨b,o+k,none⟩=some (.string (nmK names k)):=fun k hk=>by
  obtain⟨b,o,h1,h2⟩:=hU k hk
  rw [←nmK_at hk] at h2
  exact⟨b,o,h1,h2⟩
 have HH:=zz9 ⟨hUK,hT,hnn,hm,hns,hls,hbad,hF,hhd⟩
 have HR:=zz hR
 rw [hnn] at hn ⊢
 rw [hm] at hnl ⊢
 clear hU hUK hT hnn hm hns hls hbad hF hhd hR
 by_cases hnm:n=m
 case neg=>
  have hR:=HR.out
  rw [if_pos (.inl hnm)] at hR
  subst hR
  have hb:((n:Int) != (m:Int))=true:=bne_iff_ne.2 (by omega)
  go_enter Tryz.func18,Tryz.ntmps18
  go_wp2_with fail
  go_ret2
  exact⟨_,rfl,Ext.refl _ _,none,0,rfl,by simp,fun k hk=>by cases hk⟩
 case pos=>
 subst hnm
 have hb:((n:Int) != (n:Int))=false:=bne_self_eq_false _
 go_enter Tryz.func18,Tryz.ntmps18
 go_wp2_with fail
 go_loopg [6] n (fun g iv wr=>∃ i:Nat,g+i=n∧iv=.int .i64 i∧(names.drop i).any (fun s=>decide (nameN s≠0))=BAD∧Ext [] w wr)
 case atStart=>exact⟨0,by omega,rfl,HH.out.2.2.2.2.2.2.1,Ext.refl _ _⟩
 case round=>
  obtain⟨i,hgi,rfl,hB,hx⟩:=hrel
  by_cases hlt:i<n
  ·obtain⟨g,rfl⟩:∃ g,gk=g+1:=⟨gk - 1,by omega⟩
   have hltz:(i:Int)<(n:Int):=by omega
   have hil:i<names.length:=by rw [HH.out.2.2.1]; exact hlt
   rw [drop_at names i hil,List.any_cons] at hB
   obtain⟨b5,o5,rfl,c5⟩:=HH.out.1 i hil
   have c5:=hx.cell c5
   rw [nmK_at hil] at c5
   obtain⟨nm,hnm⟩:∃ nm,names[i]'hil=nm:=⟨_,rfl⟩
   rw [hnm] at hB c5
   have HC:=zz (name03_walk nm wr)
   have HX:=zz2 ⟨hx,hB⟩
   clear hx hB hnm
   obtain⟨e,he⟩:∃ e,nameN nm=e:=⟨_,rfl⟩
   rw [he] at HC HX
   clear he
   go_wp2_with fail
   refine HC.out.mono ?_
   rintro ee w2 ⟨rfl,hx2⟩
   have HX2:=zz (HX.out.1.trans hx2)
   clear hx2 HC c5
   by_cases he:e=0
   ·subst he
    go_wp2_with fail
    go_roundg g
    case measure=>omega
    case rel=>exact⟨i+1,by omega,by go_num,by simpa using HX.out.2,HX2.out⟩
   ·have heb:(e != 0)=true:=bne_iff_ne.2 he
    have hBt:BAD=true:=by rw [←HX.out.2]; simp [he]
    have hR:=HR.out
    rw [if_pos (.inr hBt)] at hR
    subst hR
    go_wp2_with fail
    go_ret2
    exact⟨_,rfl,HX2.out,none,0,rfl,by simp,fun k hk=>by cases hk⟩
  ·obtain rfl:gk=0:=by omega
   have hBf:BAD=false:=by rw [←hB,List.drop_eq_nil_of_le (by rw [HH.out.2.2.1]; omega)]; rfl
   have hR:=HR.out
   rw [if_neg (by rw [hBf]; simp)] at hR
   have HR2:=zz hR
   have HX0:=zz hx
   clear hx hB hR HR
   go_wp2_with fail
   go_loopg [7] n (fun g iv wr=>∃ i:Nat,g+i=n∧iv=.int .i64 i∧firstN (ls.drop i)=F∧Ext [] w wr)
   case atStart=>exact⟨0,by omega,rfl,HH.out.2.2.2.2.2.2.2.1,HX0.out⟩
   case round=>
    clear HX0 hlt
    obtain⟨i,hgi,rfl,hR,hx⟩:=hrel
    by_cases hlt:i<n
    ·obtain⟨g,rfl⟩:∃ g,gk=g+1:=⟨gk - 1,by omega⟩
     have hltz:(i:Int)<(n:Int):=by omega
     have hil:i<ls.length:=by rw [HH.out.2.2.2.1]; exact hlt
     rw [drop_at ls i hil,firstN] at hR
     obtain⟨b,o,vk,rfl,hc,hN⟩:=HH.out.2.1.ext hx i hil
     obtain⟨h1,h2⟩:=HH.out.2.2.2.2.2.1 _ (List.getElem_mem hil)
     have HC:=zz (check17_walk vk _ wr hN h1 h2)
     have HX:=zz2 ⟨hx,hR⟩
     clear hx hR hN h1 h2
     generalize checkN (ls[i]'hil)=e at HC HX
     go_wp2_with fail
     refine HC.out.mono ?_
     rintro ee w2 ⟨rfl,hx2⟩
     have HX2:=zz (HX.out.1.trans hx2)
     clear hx2 HC hc
     by_cases he:e=0
     ·subst he
      go_wp2_with fail
      go_roundg g
      case measure=>omega
      case rel=>exact⟨i+1,by omega,by go_num,by simpa using HX.out.2,HX2.out⟩
     ·have heb:(e != 0)=true:=bne_iff_ne.2 he
      have hFe:F=e:=by have:=HX.out.2; rw [if_neg he] at this; exact this.symm
      have hR:=HR2.out
      rw [if_pos (by rw [hFe]; exact he),hFe] at hR
      subst hR
      go_wp2_with fail
      go_ret2
      exact⟨_,rfl,HX2.out,none,0,rfl,by simp,fun k hk=>by cases hk⟩
    ·obtain rfl:gk=0:=by omega
     have hF0:F=0:=by rw [←hR,List.drop_eq_nil_of_le (by rw [HH.out.2.2.2.1]; omega)]; rfl
     have hR2:=HR2.out
     rw [if_neg (by rw [hF0]; simp)] at hR2
     have HR:=zz hR2
     have HF0:=zz hF0
     have S:=((Sep.start w).quiet hx).new (Ext.refl _ _) (oOrd (.slice none 0 0) []) (World.ownsRow_nil _ _ _ _) (fun q hq=>by simp [oOrd,oSl,Value.ownBlock] at hq)
     have HS:=zz S
     clear hx hR hR2 S HR2 hF0
     go_wp2_with fail
     go_loopg [9,10] n (fun g ov iv wr=>∃ (i:Nat) (O:List Nat),g+i=n∧iv=.int .i64 i∧Ord names i O∧Sep w wr [oOrd ov O])
     case atStart=>exact⟨0,[],by omega,rfl,Ord.nil names,HS.out⟩
     case round=>
      clear HS hlt
      obtain⟨i,O,hgi,rfl,hO,S⟩:=hrel
      have hrow:wr.ownsRow 0 3 1 u9 O.length (ndC O):=S.get 0 rfl
      have hOl:=hO.len
      obtain⟨ao,c9,rfl⟩:=row_slice hrow
      rw [hOl] at hrow ⊢
      have HO:=zz4 ⟨hO,S,hrow,hOl⟩
      clear hO S hrow hOl
      by_cases hlt:i<n
      ·obtain⟨g,rfl⟩:∃ g,gk=g+1:=⟨gk - 1,by omega⟩
       have hltz:(i:Int)<(n:Int):=by omega
       go_upto_block 6 with fail
       have hil:i<names.length:=by rw [HH.out.2.2.1]; exact hlt
       obtain⟨b5,o5,rfl,c5⟩:=HH.out.1 i hil
       obtain⟨nm,hnm⟩:∃ nm,nmK names i=nm:=⟨_,rfl⟩
       rw [hnm] at c5
       have HNM:=zz hnm
       have HC5:=zz c5
       clear hnm c5
       go_cut [11] from 45 to 100 (fun c11 wx=>∃ k:Nat,c11=.int .i64 k∧k≤i∧(∀ x∈O.drop k,ltB nm (nmK names x))∧(k=0∨∃ o,O[k - 1]? = some o∧¬ ltB nm (nmK names o))∧Sep w wx [oOrd (.slice ao O.length c9) O])
       case first=>
        go_wp2_with fail
        go_loopg [11] i (fun g2 kv wx=>∃ k:Nat,g2=k∧kv=.int .i64 k∧k≤i∧(∀ x∈O.drop k,ltB nm (nmK names x))∧Sep w wx [oOrd (.slice ao O.length c9) O])
        case atStart=>exact⟨i,rfl,rfl,Nat.le_refl _,(fun x hx=>by rw [List.drop_eq_nil_of_le (by rw [HO.out.2.2.2]; omega)] at hx; cases hx),HO.out.2.1⟩
        case round=>
         obtain⟨k,hgk,rfl,hki,hhi,S⟩:=hrel
         have hgk':=hgk.symm
         clear hgk
         subst hgk'
         cases k with
         | zero=>
          have HX:=zz2 ⟨hhi,S⟩
          clear hhi S
          go_upto_region 19 with (fail)
          go_quiet (fail)
          go_wp2_with fail
          go_meet
          exact⟨0,rfl,hki,HX.out.1,.inl rfl,HX.out.2.quiet ((Ext.refl [] _).drewN nq)⟩
         | succ k=>
          have hrow:wr.ownsRow 0 3 1 (.slice ao O.length c9) O.length (ndC O):=S.get 0 rfl
          have hOl:=HO.out.2.2.2
          rw [hOl] at hrow
          obtain⟨g9,c92,he⟩:=row_form hrow (by omega)
          cases he
          have hkO:k<O.length:=by omega
          have f1:=row_cell hrow (i:=k) (u:=.int .i64 ((O[k]'hkO:Nat):Int)) (by rw [ndC,List.getElem?_map,List.getElem?_eq_getElem hkO]; rfl)
          have hol:=HO.out.1.lt _ (List.getElem_mem hkO)
          have hget:O[k]? = some (O[k]'hkO):=List.getElem?_eq_getElem hkO
          have hdr:O.drop k=O[k]'hkO::O.drop (k+1):=drop_at O k hkO
          obtain⟨o,ho⟩:∃ o,O[k]'hkO=o:=⟨_,rfl⟩
          rw [ho] at f1 hol hget hdr
          obtain⟨b6,o6,e6,c6⟩:=HH.out.1 o (by rw [HH.out.2.2.1]; omega)
          cases e6
          have c6:=S.ext.cell c6
          have c5:=S.ext.cell HC5.out
          obtain⟨om,hom⟩:∃ om,nmK names o=om:=⟨_,rfl⟩
          rw [hom] at c6
          have HX:=zz5 ⟨hhi,S,hget,hdr,hom⟩
          have hkz:(0:Int)<(k:Int)+1:=by omega
          have hoz:(o:Int)<(n:Int):=by omega
          have hkiz:(k:Int)<(i:Int):=by omega
          clear hhi S hget hdr hom hrow hOl
          by_cases hless:ltB nm om
          ·have hl1:Op.bytesLess om.toList nm.toList=false:=by
            cases h:Op.bytesLess om.toList nm.toList with
            | false=>rfl
            | true=>exact absurd (ltB_trans hless h) (ltB_irrefl _)
           have hl2:(om.toList==nm.toList)=false:=beq_eq_false_iff_ne.2 fun h=>by
            rw [ltB,h] at hless
            exact ltB_irrefl _ hless
           go_upto_region 19 with (fail)
           go_quiet (fail)
           go_wp2_with fail
           go_roundg k
           case measure=>omega
           case rel=>
            refine⟨k,rfl,by go_num,by omega,fun x hx=>?_,HX.out.2.1.quiet ((Ext.refl [] _).drewN nq)⟩
            rw [HX.out.2.2.2.1] at hx
            rcases List.mem_cons.1 hx with rfl | hx
            ·rw [HX.out.2.2.2.2]; exact hless
            ·exact HX.out.1 x hx
          ·have hl1:(Op.bytesLess om.toList nm.toList||(om.toList==nm.toList))=true:=by
            rcases ltB_tri nm om with h | h | h
            ·exact absurd h hless
            ·subst h; simp
            ·rw [ltB] at h; rw [h]; rfl
           have hl2:(!Op.bytesLess om.toList nm.toList && !(om.toList==nm.toList))=false:=by
            rw [←Bool.not_or,hl1]; rfl
           have HLE:=zz hless
           clear hless
           go_upto_region 19 with (fail)
           go_quiet (fail)
           go_wp2_with fail
           go_meet
           refine⟨k+1,by go_num,hki,HX.out.1,.inr ⟨o,by rw [Nat.add_sub_cancel]; exact HX.out.2.2.1,?_⟩,HX.out.2.1.quiet ((Ext.refl [] _).drewN nq)⟩
           rw [HX.out.2.2.2.2]
           exact HLE.out
       case rest=>
        obtain⟨k,rfl,hki,hhi,hlo,S⟩:=hcut
        have HK:=zz3 ⟨hhi,hlo,S⟩
        clear hhi hlo S
        go_upto_region 21 with (fail)
        go_cut [88] from 45 to 100 (fun c88 wx=>(TwiceIs c88 (R=([],6)) (k=0∨∃ o,O[k - 1]? = some o∧ltB (nmK names o) nm))∧Sep w wx [oOrd (.slice ao O.length c9) O])
        case first=>
         obtain⟨hhi,hlo,S⟩:=HK.out
         cases k with
         | zero=>
          clear hhi hlo S
          go_quiet (fail)
          go_wp2_with fail
          go_meet
          exact⟨.inr ⟨rfl,by simp⟩,HK.out.2.2.quiet ((Ext.refl [] _).drewN nq)⟩
         | succ k=>
          have hrow:wc.ownsRow 0 3 1 (.slice ao O.length c9) O.length (ndC O):=S.get 0 rfl
          have hOl:=HO.out.2.2.2
          rw [hOl] at hrow
          obtain⟨g9,c92,he⟩:=row_form hrow (by omega)
          cases he
          have hkO:k<O.length:=by omega
          have f1:=row_cell hrow (i:=k) (u:=.int .i64 ((O[k]'hkO:Nat):Int)) (by rw [ndC,List.getElem?_map,List.getElem?_eq_getElem hkO]; rfl)
          have hol:=HO.out.1.lt _ (List.getElem_mem hkO)
          have hget:O[k]? = some (O[k]'hkO):=List.getElem?_eq_getElem hkO
          obtain⟨o,ho⟩:∃ o,O[k]'hkO=o:=⟨_,rfl⟩
          rw [ho] at f1 hol hget
          obtain⟨b6,o6,e6,c6⟩:=HH.out.1 o (by rw [HH.out.2.2.1]; omega)
          cases e6
          have c6:=S.ext.cell c6
          have c5:=S.ext.cell HC5.out
          obtain⟨om,hom⟩:∃ om,nmK names o=om:=⟨_,rfl⟩
          rw [hom] at c6
          have hle:¬ ltB nm om:=by
           rcases hlo with h | ⟨o2,h1,h2⟩
           ·omega
           ·rw [Nat.add_sub_cancel,hget] at h1
            cases h1
            rw [hom] at h2
            exact h2
          have HX:=zz3 ⟨hget,hom,hle⟩
          have hkz:(0:Int)<(k:Int)+1:=by omega
          have hoz:(o:Int)<(n:Int):=by omega
          have hkiz:(k:Int)<(i:Int):=by omega
          clear hhi S hget hom hrow hle hlo hOl
          by_cases heq:om=nm
          ·have hl2:(om.toList==nm.toList)=true:=by rw [heq]; exact beq_self_eq_true _
           have hR6:R=([],6):=by
            rw [←HR.out]
            exact HO.out.1.twice (by rw [HH.out.2.2.1,HH.out.2.2.2.1]) (by rw [HH.out.2.2.1]; exact hlt) (List.mem_of_getElem? HX.out.1) (by rw [HX.out.2.1,HNM.out,heq])
           have HR6:=zz hR6
           clear heq hR6
           go_quiet (fail)
           go_wp2_with fail
           go_meet
           exact⟨.inl ⟨rfl,HR6.out⟩,HK.out.2.2.quiet ((Ext.refl [] _).drewN nq)⟩
          ·have hl2:(om.toList==nm.toList)=false:=beq_eq_false_iff_ne.2 fun h=>heq (by
            rcases ltB_tri om nm with q | q | q
            ·rw [ltB,h] at q; exact absurd q (ltB_irrefl _)
            ·exact q
            ·rw [ltB,h] at q; exact absurd q (ltB_irrefl _))
           have HNE:=zz heq
           clear heq
           go_quiet (fail)
           go_wp2_with fail
           go_meet
           refine⟨.inr ⟨rfl,.inr ⟨o,by rw [Nat.add_sub_cancel]; exact HX.out.1,?_⟩⟩,HK.out.2.2.quiet ((Ext.refl [] _).drewN nq)⟩
           rw [HX.out.2.1]
           rcases ltB_tri om nm with q | q | q
           ·exact q
           ·exact absurd q HNE.out
           ·exact absurd q HX.out.2.2
        case rest=>
         obtain⟨⟨rfl,hR6⟩ | ⟨rfl,hlo⟩,S⟩:=hcut
         ·have HS:=zz S
          subst hR6
          clear S
          go_wp2_with fail
          go_ret2
          exact⟨_,rfl,HS.out.ext,none,0,rfl,by simp,fun k hk=>by cases hk⟩
         have hins:=HO.out.1.ins (k:=k) (by rw [HO.out.2.2.2]; exact hki) (by rw [HNM.out]; exact HK.out.1) (by rw [HNM.out]; exact hlo)
         obtain⟨b8,c8,he8,hc8,hv8⟩:=own_vals (S.get 0 rfl:World.ownsRow _ 0 3 1 _ O.length (ndC O))
         injection he8 with q1 q2 q3
         subst q1 q3
         clear q2
         rw [HO.out.2.2.2] at hc8
         have hOlen:(ndC O).length=i:=by rw [ndC_len,HO.out.2.2.2]
         have hsz:∀ w,(Go.sizeOf 3).run Tryz.prog w=.ok 1 w:=fun w=>by simp [Go.sizeOf,typeInfo,hif,hz1]
         have hs1:=slice_from (P:=Tryz.prog) Tryz.underlying39 hsz ao i c9 k hki
         have hs2:=slice_upto (P:=Tryz.prog) Tryz.underlying39 hsz ao i c9 k hki hc8
         have hone:∀ x∈ndC O,x.oneCell' = true:=fun x hx=>by
          obtain⟨y,_,rfl⟩:=List.mem_map.1 hx
          rfl
         have hl1:((ndC O).take k).length=k:=by rw [List.length_take,hOlen]; omega
         have hl2:((ndC O).drop k).length=i - k:=by rw [List.length_drop,hOlen]
         have HA1:=zz (fun (W:World) (v2:Value) (ho:W.ownsRow 0 3 1 v2 0 []) (hx:Ext [] wc W)=>app_vals (P:=Tryz.prog) (t:=39) Tryz.underlying39 hif hz0 hz1 hz2 rfl (by decide) ho (base:=ao) (cap:=c9) (ys:=(ndC O).take k) ((hv8.ext hx).upto k) (fun u hu=>hone u (List.mem_of_mem_take hu)) (by rw [hl1]; omega) 39)
         have HA2:=zz (fun (W:World) (v2:Value) (q:Nat) (ho:W.ownsRow 0 3 1 v2 k ((ndC O).take k)) (hq:W.ownsRow 0 3 1 (.slice (some ⟨q,0,none⟩) 1 1) 1 [iz i])=>app_vals (P:=Tryz.prog) (t:=39) Tryz.underlying39 hif hz0 hz1 hz2 rfl (by decide) ho (base:=some ⟨q,0,none⟩) (cap:=1) (ys:=[iz i]) (by
          obtain⟨b,c,he,-,hv⟩:=own_vals hq
          cases he
          exact hv) (fun u hu => by obtain rfl : u = iz i := by simpa using hu
                                    rfl) (by simp only [List.length_cons,List.length_nil]; omega) 39)
         have HA3:=zz (fun (W:World) (v2:Value) (ho:W.ownsRow 0 3 1 v2 (k+1) ((ndC O).take k++[iz i])) (hx:Ext [] wc W)=>app_vals (P:=Tryz.prog) (t:=39) Tryz.underlying39 hif hz0 hz1 hz2 rfl (by decide) ho (base:=fromB ao c9 k) (cap:=c9 - k) (ys:=(ndC O).drop k) ((hv8.ext hx).from (by rw [hOlen]; exact hc8) k) (fun u hu=>hone u (List.mem_of_mem_drop hu)) (by rw [hl2]; omega) 39)
         simp only [hl1,Nat.zero_add,List.nil_append] at HA1
         simp only [List.length_cons,List.length_nil,Nat.zero_add] at HA2
         simp only [hl2,show k+1+(i - k)=i+1 by omega] at HA3
         have hcells:(ndC O).take k++[iz i]++(ndC O).drop k=ndC (O.take k++i::O.drop k):=by
          rw [ndC,ndC,List.map_append,List.map_cons,List.map_take,List.map_drop,List.append_assoc]
          rfl
         have hlen2:(O.take k++i::O.drop k).length=i+1:=hins.len
         have HEND:=zz (fun (V:World) (a3:Option Addr) (c3:Nat) (hx:Ext [] wc V) (ho:V.ownsRow 0 3 1 (.slice a3 (i+1) c3) (i+1) ((ndC O).take k++[iz i]++(ndC O).drop k)) (hb:∀ k∈(oSl 3 1 (.slice a3 (i+1) c3) (i+1) ((ndC O).take k++[iz i]++(ndC O).drop k)).F,wc.heap.size≤k)=>(by
          have h1:=S.new hx (oOrd (.slice a3 (i+1) c3) (O.take k++i::O.drop k)) (by
           show V.ownsRow 0 3 1 _ (O.take k++i::O.drop k).length _
           rw [hlen2,←hcells]
           exact ho) hb
          exact Sep.tail (swap01 h1):Sep w V [oOrd (.slice a3 (i+1) c3) (O.take k++i::O.drop k)]))
         have HI:=zz hins
         have T0:=(Sep.start wc).quiet ((Ext.refl [] wc).drew)
         have HT:=zz T0
         clear T0 hins hcells hlen2 hl1 hl2 hone hsz hOlen hv8 S hlo hc8
         go_upto_region 23 with (fail)
         refine wp_region_perm (C:=fun w'=>∃ x:Ex wc,w' = x.w) [1,2,3,5,8,9,10] 12 (by kernel_rfl) (by kernel_rfl) ⟨Ex.mk _ ((Ext.refl [] wc).drew),rfl⟩ ?_
         simp only [pick,List.drop_succ_cons,List.drop_zero,List.getElem?_toArray,List.getElem?_cons_zero,List.getElem?_cons_succ]
         repeat (go_big_quiet_step (fail))
         refine wpQuiet_nil ?_
         clear hs1 hs2
         have T:=HT.out
         obtain⟨V,hV⟩:∃ V,wc.drew=V:=⟨_,rfl⟩
         rw [hV] at T ⊢
         clear hV
         have hsz1:∀ (V:World) (O:Obj),(V.alloc O).heap.size=V.heap.size+1:=fun _ _=>by simp
         refine anyC_two (f:=4) (i:=0) (j:=6) (by kernel_rfl) (by decide) (by decide) rfl rfl rfl rfl (fun K hK=>?_) (fun K hK=>?_)
         ·go_wp2_with fail
          have T:=T.new ((Ext.refl [] _).alloc _) (oSl 3 1 _ 0 []) empty_row (fun k hk=>Nat.le_of_eq (List.mem_singleton.1 hk).symm)
          refine hK _ _ ⟨Ex.mk _ T.ext,rfl⟩ ?_
          clear hK K
          refine anyC_two (f:=3) (i:=4) (j:=6) (by kernel_rfl) (by decide) (by decide) rfl rfl rfl rfl (fun K hK=>?_) (fun K hK=>?_)
          ·have ho:World.ownsRow _ 0 3 1 _ 0 []:=T.get 0 rfl
           obtain⟨an,cn,W1,hr,ho2,hx2,hf2⟩:=HA1.out _ _ ho T.ext
           refine wp_append_run _ _ _ _ rfl rfl rfl hr ?_
           have T:=T.upd 0 (oSl 3 1 (.slice an k cn) k ((ndC O).take k)) rfl hx2 hf2 ho2
           clear ho hr ho2 hx2 hf2
           refine hK _ _ ⟨Ex.mk _ T.ext,rfl⟩ ?_
           clear hK K
           refine anyC_one (f:=2) (i:=6) (by kernel_rfl) (by decide) rfl rfl (fun K hK=>?_)
           go_wp2_with fail
           have T:=T.new ((Ext.refl [] _).alloc _) (oSl 3 1 _ 1 [iz i]) one_row (fun k hk=>Nat.le_of_eq (List.mem_singleton.1 hk).symm)
           refine hK _ _ ⟨Ex.mk _ T.ext,rfl⟩ ?_
           clear hK K
           refine anyC_one (f:=1) (i:=7) (by kernel_rfl) (by decide) rfl rfl (fun K hK=>?_)
           have ho:World.ownsRow _ 0 3 1 _ k ((ndC O).take k):=T.get 1 rfl
           have hq:World.ownsRow _ 0 3 1 _ 1 [iz i]:=T.get 0 rfl
           obtain⟨an2,cn2,W2,hr,ho2,hx2,hf2⟩:=HA2.out _ _ _ ho hq
           refine wp_append_run _ _ _ _ rfl rfl rfl hr ?_
           have T:=T.upd 1 (oSl 3 1 (.slice an2 (k+1) cn2) (k+1) ((ndC O).take k++[iz i])) rfl hx2 hf2 ho2
           clear ho hr ho2 hx2 hf2
           refine hK _ _ ⟨Ex.mk _ T.ext,rfl⟩ ?_
           clear hK K
           refine anyC_one (f:=0) (i:=11) (by kernel_rfl) (by decide) rfl rfl (fun K hK=>?_)
           have ho:World.ownsRow _ 0 3 1 _ (k+1) ((ndC O).take k++[iz i]):=T.get 1 rfl
           obtain⟨an3,cn3,W3,hr,ho2,hx2,hf2⟩:=HA3.out _ _ ho T.ext
           refine wp_append_run _ _ _ _ rfl rfl rfl hr ?_
           have T:=T.upd 1 (oSl 3 1 (.slice an3 (i+1) cn3) (i+1) ((ndC O).take k++[iz i]++(ndC O).drop k)) rfl hx2 hf2 ho2
           clear ho hr ho2 hx2 hf2
           refine hK _ _ ⟨Ex.mk _ T.ext,rfl⟩ ?_
           clear hK K
           refine anyC_end (by kernel_rfl) ?_
           go_wp2_with fail
           refine NoPanic.normal ?_
           go_wp2_with fail
           go_roundg g
           case measure=>omega
           case rel=>
            have ho:World.ownsRow _ 0 3 1 _ (i+1) ((ndC O).take k++[iz i]++(ndC O).drop k):=T.get 1 rfl
            exact⟨i+1,_,by omega,by go_num,HI.out,HEND.out _ an3 cn3 T.ext ho (T.base (oSl 3 1 (.slice an3 (i+1) cn3) (i+1) ((ndC O).take k++[iz i]++(ndC O).drop k)) (List.mem_of_getElem? (i:=1) rfl))⟩
          ·go_wp2_with fail
           have T:=T.new ((Ext.refl [] _).alloc _) (oSl 3 1 _ 1 [iz i]) one_row (fun k hk=>Nat.le_of_eq (List.mem_singleton.1 hk).symm)
           rw [hsz1] at T
           refine hK _ _ ⟨Ex.mk _ T.ext,rfl⟩ ?_
           clear hK K
           refine anyC_one (f:=2) (i:=4) (by kernel_rfl) (by decide) rfl rfl (fun K hK=>?_)
           have ho:World.ownsRow _ 0 3 1 _ 0 []:=T.get 1 rfl
           obtain⟨an,cn,W1,hr,ho2,hx2,hf2⟩:=HA1.out _ _ ho T.ext
           refine wp_append_run _ _ _ _ rfl rfl rfl hr ?_
           have T:=T.upd 1 (oSl 3 1 (.slice an k cn) k ((ndC O).take k)) rfl hx2 hf2 ho2
           clear ho hr ho2 hx2 hf2
           refine hK _ _ ⟨Ex.mk _ T.ext,rfl⟩ ?_
           clear hK K
           refine anyC_one (f:=1) (i:=7) (by kernel_rfl) (by decide) rfl rfl (fun K hK=>?_)
           have ho:World.ownsRow _ 0 3 1 _ k ((ndC O).take k):=T.get 1 rfl
           have hq:World.ownsRow _ 0 3 1 _ 1 [iz i]:=T.get 0 rfl
           obtain⟨an2,cn2,W2,hr,ho2,hx2,hf2⟩:=HA2.out _ _ _ ho hq
           refine wp_append_run _ _ _ _ rfl rfl rfl hr ?_
           have T:=T.upd 1 (oSl 3 1 (.slice an2 (k+1) cn2) (k+1) ((ndC O).take k++[iz i])) rfl hx2 hf2 ho2
           clear ho hr ho2 hx2 hf2
           refine hK _ _ ⟨Ex.mk _ T.ext,rfl⟩ ?_
           clear hK K
           refine anyC_one (f:=0) (i:=11) (by kernel_rfl) (by decide) rfl rfl (fun K hK=>?_)
           have ho:World.ownsRow _ 0 3 1 _ (k+1) ((ndC O).take k++[iz i]):=T.get 1 rfl
           obtain⟨an3,cn3,W3,hr,ho2,hx2,hf2⟩:=HA3.out _ _ ho T.ext
           refine wp_append_run _ _ _ _ rfl rfl rfl hr ?_
           have T:=T.upd 1 (oSl 3 1 (.slice an3 (i+1) cn3) (i+1) ((ndC O).take k++[iz i]++(ndC O).drop k)) rfl hx2 hf2 ho2
           clear ho hr ho2 hx2 hf2
           refine hK _ _ ⟨Ex.mk _ T.ext,rfl⟩ ?_
           clear hK K
           refine anyC_end (by kernel_rfl) ?_
           go_wp2_with fail
           refine NoPanic.normal ?_
           go_wp2_with fail
           go_roundg g
           case measure=>omega
           case rel=>
            have ho:World.ownsRow _ 0 3 1 _ (i+1) ((ndC O).take k++[iz i]++(ndC O).drop k):=T.get 1 rfl
            exact⟨i+1,_,by omega,by go_num,HI.out,HEND.out _ an3 cn3 T.ext ho (T.base (oSl 3 1 (.slice an3 (i+1) cn3) (i+1) ((ndC O).take k++[iz i]++(ndC O).drop k)) (List.mem_of_getElem? (i:=1) rfl))⟩
         ·go_wp2_with fail
          have T:=T.new ((Ext.refl [] _).alloc _) (oSl 3 1 _ 1 [iz i]) one_row (fun k hk=>Nat.le_of_eq (List.mem_singleton.1 hk).symm)
          refine hK _ _ ⟨Ex.mk _ T.ext,rfl⟩ ?_
          clear hK K
          refine anyC_one (f:=3) (i:=0) (by kernel_rfl) (by decide) rfl rfl (fun K hK=>?_)
          go_wp2_with fail
          have T:=T.new ((Ext.refl [] _).alloc _) (oSl 3 1 _ 0 []) empty_row (fun k hk=>Nat.le_of_eq (List.mem_singleton.1 hk).symm)
          rw [hsz1] at T
          refine hK _ _ ⟨Ex.mk _ T.ext,rfl⟩ ?_
          clear hK K
          refine anyC_one (f:=2) (i:=4) (by kernel_rfl) (by decide) rfl rfl (fun K hK=>?_)
          have ho:World.ownsRow _ 0 3 1 _ 0 []:=T.get 0 rfl
          obtain⟨an,cn,W1,hr,ho2,hx2,hf2⟩:=HA1.out _ _ ho T.ext
          refine wp_append_run _ _ _ _ rfl rfl rfl hr ?_
          have T:=T.upd 0 (oSl 3 1 (.slice an k cn) k ((ndC O).take k)) rfl hx2 hf2 ho2
          clear ho hr ho2 hx2 hf2
          refine hK _ _ ⟨Ex.mk _ T.ext,rfl⟩ ?_
          clear hK K
          refine anyC_one (f:=1) (i:=7) (by kernel_rfl) (by decide) rfl rfl (fun K hK=>?_)
          have ho:World.ownsRow _ 0 3 1 _ k ((ndC O).take k):=T.get 0 rfl
          have hq:World.ownsRow _ 0 3 1 _ 1 [iz i]:=T.get 1 rfl
          obtain⟨an2,cn2,W2,hr,ho2,hx2,hf2⟩:=HA2.out _ _ _ ho hq
          refine wp_append_run _ _ _ _ rfl rfl rfl hr ?_
          have T:=T.upd 0 (oSl 3 1 (.slice an2 (k+1) cn2) (k+1) ((ndC O).take k++[iz i])) rfl hx2 hf2 ho2
          clear ho hr ho2 hx2 hf2
          refine hK _ _ ⟨Ex.mk _ T.ext,rfl⟩ ?_
          clear hK K
          refine anyC_one (f:=0) (i:=11) (by kernel_rfl) (by decide) rfl rfl (fun K hK=>?_)
          have ho:World.ownsRow _ 0 3 1 _ (k+1) ((ndC O).take k++[iz i]):=T.get 0 rfl
          obtain⟨an3,cn3,W3,hr,ho2,hx2,hf2⟩:=HA3.out _ _ ho T.ext
          refine wp_append_run _ _ _ _ rfl rfl rfl hr ?_
          have T:=T.upd 0 (oSl 3 1 (.slice an3 (i+1) cn3) (i+1) ((ndC O).take k++[iz i]++(ndC O).drop k)) rfl hx2 hf2 ho2
          clear ho hr ho2 hx2 hf2
          refine hK _ _ ⟨Ex.mk _ T.ext,rfl⟩ ?_
          clear hK K
          refine anyC_end (by kernel_rfl) ?_
          go_wp2_with fail
          refine NoPanic.normal ?_
          go_wp2_with fail
          go_roundg g
          case measure=>omega
          case rel=>
           have ho:World.ownsRow _ 0 3 1 _ (i+1) ((ndC O).take k++[iz i]++(ndC O).drop k):=T.get 0 rfl
           exact⟨i+1,_,by omega,by go_num,HI.out,HEND.out _ an3 cn3 T.ext ho (T.base (oSl 3 1 (.slice an3 (i+1) cn3) (i+1) ((ndC O).take k++[iz i]++(ndC O).drop k)) (List.mem_of_getElem? (i:=0) rfl))⟩
      ·obtain rfl:gk=0:=by omega
       obtain rfl:i=n:=by omega
       have hdone:=Ord.done (ls:=ls) (by rw [HH.out.2.2.1,HH.out.2.2.2.1]) (show Ord names names.length O by rw [HH.out.2.2.1]; exact HO.out.1)
       obtain⟨SP,hSP⟩:∃ SP:List (Et×List Nd),SP=O.map (fun k=>((nmK names k,hd k),ls.getD k [])):=⟨_,rfl⟩
       have hSE:SP.map (fun p=>(p.1.1,p.2))=ordS names ls O:=by rw [hSP,List.map_map]; rfl
       have hSl:SP.length=i:=by rw [hSP,List.length_map,HO.out.2.2.2]
       have hSj:∀ j (hj:j<O.length),SP[j]? = some ((nmK names (O[j]'hj),hd (O[j]'hj)),ls.getD (O[j]'hj) []):=fun j hj=>by rw [hSP,List.getElem?_map,List.getElem?_eq_getElem hj]; rfl
       have hSN:∀ p∈SP,NodesAt w (slC p.1.2) p.2:=fun p hp=>by
        rw [hSP] at hp
        obtain⟨k,hk,rfl⟩:=List.mem_map.1 hp
        obtain⟨_,_,_,_,h3⟩:=HH.out.2.2.2.2.2.2.2.2 k (by rw [HH.out.2.2.2.1]; exact HO.out.1.lt k hk)
        exact h3
       rw [HR.out,←hSE] at hdone
       have HD:=zz6 ⟨hdone.1,hdone.2,hSE,hSl,hSj,hSN⟩
       have S:=HO.out.2.1.new (Ext.refl _ _) (oNm []) (fun p hp=>by cases hp) (fun k hk=>by cases hk)
       have S:=S.new (Ext.refl _ _) (oSl 31 1 (.slice none 0 0) 0 []) (World.ownsRow_nil _ _ _ _) (fun q hq=>by simp [oSl,Value.ownBlock] at hq)
       have HS:=zz S
       clear S hdone hSP hSE hSl hSj hSN
       go_wp2_with fail
       go_loopg [12,13] i (fun g ov iv wx=>∃ (j:Nat) (G:List (Nat×ByteArray)),g+j=i∧iv=.int .i64 j∧G.length=j∧G.map (·.2)=(SP.take j).map (·.1.1)∧Sep w wx (oSl 31 1 ov (2*j) (allC G ((SP.take j).map (·.1)))::oNm G::[oOrd (.slice ao O.length c9) O]))
       case atStart=>exact⟨0,[],by omega,rfl,rfl,rfl,HS.out⟩
       case round=>
        clear HS hlt
        obtain⟨j,G,hgj,rfl,hG,hGm,S⟩:=hrel
        have hr0:wr.ownsRow 0 31 1 u12 (2*j) (allC G ((SP.take j).map (·.1))):=S.get 0 rfl
        obtain⟨ao4,cap4,rfl⟩:=row_slice hr0
        by_cases hlt:j<i
        ·obtain⟨g,rfl⟩:∃ g,gk=g+1:=⟨gk - 1,by omega⟩
         have hltz:(j:Int)<(i:Int):=by omega
         have hrow:wr.ownsRow 0 3 1 (.slice ao O.length c9) O.length (ndC O):=S.get 2 rfl
         have hOl:=HO.out.2.2.2
         rw [hOl] at hrow
         obtain⟨g9,c92,he⟩:=row_form hrow (by omega)
         cases he
         have hkO:j<O.length:=by omega
         have f1:=row_cell hrow (i:=j) (u:=.int .i64 ((O[j]'hkO:Nat):Int)) (by rw [ndC,List.getElem?_map,List.getElem?_eq_getElem hkO]; rfl)
         have hol:=HO.out.1.lt _ (List.getElem_mem hkO)
         have hget:=HD.out.2.2.2.2.1 j hkO
         obtain⟨o,ho⟩:∃ o,O[j]'hkO=o:=⟨_,rfl⟩
         rw [ho] at f1 hol hget
         have htk:SP.take (j+1)=SP.take j++[((nmK names o,hd o),ls.getD o [])]:=by
          obtain⟨h1,h2⟩:=List.getElem?_eq_some_iff.1 hget
          rw [List.take_succ_eq_append_getElem h1,h2]
         obtain⟨b5,o5,rfl,c5⟩:=HH.out.1 o (by rw [HH.out.2.2.1]; omega)
         obtain⟨b6,o6,rfl,c6,-⟩:=HH.out.2.2.2.2.2.2.2.2 o (by rw [HH.out.2.2.2.1]; omega)
         have c5:=S.ext.cell c5
         have c6:=S.ext.cell c6
         obtain⟨nm,hnm⟩:∃ nm,nmK names o=nm:=⟨_,rfl⟩
         rw [hnm] at c5 htk
         obtain⟨hq,hhq⟩:∃ hq,hd o=hq:=⟨_,rfl⟩
         rw [hhq] at c6 htk
         obtain⟨xa,xn,xc⟩:=hq
         have e1:∀ y:Ex wr,y.w.cell? ⟨g9,j,none⟩=some (.int .i64 (o:Nat)):=fun y=>y.cell f1
         have e2:∀ y:Ex wr,y.w.cell? ⟨b5,o5+o,none⟩=some (.string nm):=fun y=>y.cell c5
         have e3:∀ y:Ex wr,y.w.cell? ⟨b6,o6+o,none⟩=some (.slice xa xn xc):=fun y=>y.cell c6
         have hoz:(o:Int)<(i:Int):=by omega
         have HX:=zz5 ⟨S,hG,hGm,htk,hr0⟩
         clear S hG hGm htk hr0 f1 c5 c6 hrow hget hOl
         go_upto_region 28 with (fail)
         refine wp_region_perm (C:=fun w'=>∃ x:Ex wr,w' = x.w) [0,1,2,3,4,5,6,7,8,10,11,12,13,14,15,16] 18 (by kernel_rfl) (by kernel_rfl) ⟨Ex.mk _ ((Ext.refl [] wr).drew),rfl⟩ ?_
         simp only [pick,List.drop_succ_cons,List.drop_zero,List.getElem?_toArray,List.getElem?_cons_zero,List.getElem?_cons_succ]
         repeat (go_big_quiet_step (fail))
         refine wpQuiet_nil ?_
         clear e1 e2 e3
         obtain⟨V,hV⟩:∃ V,wr.drew=V:=⟨_,rfl⟩
         have hx2:Ext [] wr V:=by rw [←hV]; exact (Ext.refl [] wr).drew
         rw [hV]
         have HR9:=zz2 ⟨ownsRow_ext HX.out.2.2.2.2 hx2 (by simp),hx2⟩
         clear hV hx2
         refine anyC_one (f:=1) (i:=9) (by kernel_rfl) (by decide) rfl rfl (fun K hK=>?_)
         go_wp2_with fail
         refine hK _ _ ⟨Ex.mk _ (HR9.out.2.alloc _),rfl⟩ ?_
         clear hK K
         refine anyC_one (f:=0) (i:=17) (by kernel_rfl) (by decide) rfl rfl (fun K hK=>?_)
         go_wp2_with fail
         refine hK _ _ ⟨Ex.mk _ ((HR9.out.2.alloc _).alloc _),rfl⟩ ?_
         clear hK K
         refine anyC_end (by kernel_rfl) ?_
         go_wp2_with (at_builtin; refine wpList_append_lies _ rfl _ _ 57 rfl 0 31 j0 _ 1 24 Tryz.underlying57 hjf hy0 hy1 hy2 rfl (by decide) (.slice ao4 (2*j) cap4) (2*j) _ rfl (World.ownsRow.alloc (World.ownsRow.alloc HR9.out.1 _) _) ⟨V.heap.size+1,0,none⟩ 2 2 [.slice (some ⟨V.heap.size,0,none⟩) 1 1,.slice xa xn xc] rfl rfl (cells_two2 _ _ _ _ _) (by simp [Value.oneCell']) (by decide) (by unfold maxLen; omega) (by omega) (by omega) (V.heap.size+2) (by simp) ?_; intro g6 cap2 w6 hown1 hgrow hat6 hlt6)
         refine NoPanic.normal ?_
         have hsz:(V.alloc (nmObj nm)).heap.size=V.heap.size+1:=by simp
         have Pl:=push_local (w:=V.alloc (nmObj nm)) (cap:=cap2) (n:=2*j+2) hgrow (by rcases hat6 with q1 | q1; exact .inl q1; exact .inr (by rw [hsz]; omega))
         have S1:=(HX.out.1.quiet HR9.out.2).upd 1 (oNm (G++[(V.heap.size,nm)])) rfl (((Ext.refl [] V).alloc (nmObj nm)).weak) (fun k hk=>by
          obtain⟨p9,hp9,rfl⟩:=List.mem_map.1 hk
          rcases List.mem_append.1 hp9 with h9 | h9
          ·exact .inl (List.mem_map_of_mem h9)
          ·obtain rfl:p9=(V.heap.size,nm):=by simpa using h9
           exact .inr (Nat.le_refl _)) (fun p9 hp9=>by
          rcases List.mem_append.1 hp9 with h9 | h9
          ·exact heap_alloc_old _ ((HX.out.1.quiet HR9.out.2).get 1 rfl p9 h9)
          ·obtain rfl:p9=(V.heap.size,nm):=by simpa using h9
           exact heap_alloc_at _)
         have hSPl:=HD.out.2.2.2.1
         have S2:=S1.upd 0 (oSl 31 1 (.slice (some ⟨g6,0,none⟩) (2*(j+1)) cap2) (2*(j+1)) (allC (G++[(V.heap.size,nm)]) ((SP.take (j+1)).map (·.1)))) rfl Pl.1 Pl.2 (by
          show World.ownsRow _ 0 31 1 _ _ _
          rw [HX.out.2.2.2.1,List.map_append,List.map_cons,List.map_nil,allC_push _ _ _ _ (by rw [HX.out.2.1,List.length_map,List.length_take]; omega)]
          exact hown1)
         have HS2:=zz S2
         clear S1 S2 Pl hown1 hgrow hat6 hlt6 hsz hSPl
         go_wp2_with fail
         go_roundg g
         case measure=>omega
         case rel=>
          exact⟨j+1,G++[(V.heap.size,nm)],by omega,by go_num,by rw [List.length_append,HX.out.2.1]; rfl,by rw [List.map_append,HX.out.2.2.1,HX.out.2.2.2.1,List.map_append]; rfl,HS2.out⟩
        ·obtain rfl:gk=0:=by omega
         obtain rfl:j=i:=by omega
         have htake:SP.take j=SP:=by rw [←HD.out.2.2.2.1,List.take_length]
         rw [htake] at hGm hr0
         have hmemz:∀ p∈SP,p.1.1∈names∧p.2∈ls:=fun p hp=>by
          have h1:(p.1.1,p.2)∈names.zip ls:=HD.out.2.1 _ (List.mem_map_of_mem (f:=fun p:Et×List Nd=>(p.1.1,p.2)) hp)
          exact⟨(List.of_mem_zip h1).1,(List.of_mem_zip h1).2⟩
         have hT:TreesAt wr (.slice ao4 (2*j) cap4) (allN (SP.map fun p=>(p.1.1,p.2))):=by
          refine trees_of (G:=G) ?_ hGm (S.get 1 rfl) (fun p hp=>⟨(HD.out.2.2.2.2.2 p hp).ext S.ext,by have:=HH.out.2.2.2.2.1 _ (hmemz p hp).1; omega⟩)
          rw [HD.out.2.2.2.1]
          exact hr0
         have hnames:∀ s∈names,nameN s=0:=fun s hs=>by
          have hb2:=HH.out.2.2.2.2.2.2.1
          rw [hBf,List.any_eq_false] at hb2
          simpa using hb2 s hs
         have hall:∀ l∈allN (SP.map fun p=>(p.1.1,p.2)),(∀ x∈l,x.s.size≤1000000)∧checkN l=0:=fun l hl=>by
          obtain⟨p9,hp9,h9⟩:=List.mem_flatMap.1 hl
          obtain⟨p8,hp8,rfl⟩:=List.mem_map.1 hp9
          obtain⟨h1,h2⟩:=hmemz p8 hp8
          simp only [List.mem_cons,List.not_mem_nil,or_false] at h9
          rcases h9 with rfl | rfl
          ·refine⟨fun x hx=>?_,name_ok (hnames _ h1)⟩
           obtain rfl:x=nameNd p8.1.1:=by simpa using hx
           exact HH.out.2.2.2.2.1 _ h1
          ·exact⟨(HH.out.2.2.2.2.2.1 _ h2).2,firstN_zero (HH.out.2.2.2.2.2.2.2.1.trans HF0.out) _ h2⟩
         have hU:=put17_walk 8 _ _ wr hT (by rw [allN_len,List.length_map,HD.out.2.2.2.1]; omega) (fun l hl=>(hall l hl).1) (fun l hl=>(hall l hl).2)
         rw [←HD.out.1] at hU
         have HU:=zz hU
         have HE:=zz S.ext
         clear hU hT hmemz hall hnames htake hGm hG hr0 S
         go_wp2_with fail
         refine HU.out.mono ?_
         rintro e w2 ⟨v2,rfl,hx2,hN⟩
         have HF:=zz2 ⟨HE.out.trans hx2,hN⟩
         clear hx2 hN HU HE
         go_wp2_with fail
         go_ret2
         exact⟨_,rfl,HF.out.1,HF.out.2⟩
end Tr
end Go.Proofs.YtljachhmdogkdaaGreatDoor
