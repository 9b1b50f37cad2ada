/-
 Texts PnD, PnE, PnF, PnG, as far as the statement needs them.
-/
import Derived.Test.YtljachhmdogkdaaGreatDoorQPy
import Derived.Test.YtljachhmdogkdaaGreatDoorQTv
set_option maxRecDepth 100000
set_option maxHeartbeats 64000000
namespace Go.Proofs.YtljachhmdogkdaaGreatDoor
namespace Tr
open Go.RowKit
theorem come_lenD {l:List Nd} {i:Nat} {T T2:List Fm} (h:comeN l i T=some T2):T2.length=T.length:=by
 cases T with
 | nil=>rw [comeN] at h; split at h <;> simp_all
 | cons p U=>
  obtain⟨a,k⟩:=p
  rw [comeN] at h
  split at h
  ·split at h
   ·obtain rfl:=Option.some.inj h; rfl
   ·cases h
  ·obtain rfl:=Option.some.inj h; rfl
theorem walk_deepD {l:List Nd} {n:Nat}:∀ (g i:Nat) (T:List Fm) (E D:List Int) {T2:List Fm} {E2 D2:List Int},g+i≤n→T.length≤i→(∀ d∈D,d≤(n:Int))→walkN l g i T E D=some (T2,E2,D2)→∀ d∈D2,d≤(n:Int)
 | 0,i,T,E,D,T2,E2,D2,_,_,hD,h=>by
  rw [walkN] at h
  obtain⟨-,h2⟩:=Prod.mk.inj (Option.some.inj h)
  obtain⟨-,rfl⟩:=Prod.mk.inj h2
  exact hD
 | g+1,i,T,E,D,T2,E2,D2,hg,hT,hD,h=>by
  unfold walkN at h
  cases hc:comeN l i T with
  | none=>rw [hc] at h; cases h
  | some U=>
   rw [hc] at h
   simp only at h
   have hU:=come_lenD hc
   have hcl:=(close_len l i ((i,0)::U) E).1
   rw [List.length_cons] at hcl
   refine walk_deepD g (i+1) _ _ _ (by omega) (by omega) (fun d hd=>?_) h
   rcases List.mem_or_eq_of_mem_set hd with hd | rfl
   ·exact hD d hd
   ·omega
theorem deps_lenD {l:List Nd} (h:checkN l=0):∀ d∈depsN l,d≤(l.length:Int):=by
 obtain⟨h0,-,E,D,hs,-⟩:=check_zero h
 have hd:depsN l=D:=by rw [depsN,hs]
 rw [hd]
 unfold shapeN at hs
 split at hs
 ·rename_i E2 D2 hw
  rw [if_pos h0] at hs
  obtain⟨-,rfl⟩:=Prod.mk.inj (Option.some.inj hs)
  exact walk_deepD l.length 0 [] _ _ (by omega) (Nat.le_refl _) (fun d hd=>by
   have:=List.eq_of_mem_replicate hd
   omega) hw
 ·cases hs
end Tr
namespace Pg
open Go.RowKit
open Tr
open Rc
def kidE (l:List Nd):List Ent:=pairsN l (ndAt l 0).kids
def atE (P:List Ent) (s:ByteArray):Option (List Nd):=(P.find? fun p=>decide (p.1=s)).map (·.2)
theorem lin_pairs (l:List Nd) (s:ByteArray):∀ K:List Int,(linF l s K).map (fun m=>subN l m.toNat)=atE (pairsN l K) s
 | []=>rfl
 | [k]=>rfl
 | k::m::r=>by
  rw [linF,pairsN,atE,List.find?_cons]
  by_cases h:(ndAt l k).s=s
  ·rw [if_pos h,decide_eq_true h]; rfl
  ·rw [if_neg h,decide_eq_false h]
   exact lin_pairs l s r
theorem get_at {l:List Nd} (h:isN l 8=true) (s:ByteArray):getN l s=atE (kidE l) s:=by rw [get_doc h,lin_pairs]; rfl
theorem at_mem {P:List Ent} {s:ByteArray} {v:List Nd} (h:atE P s=some v):(s,v)∈P:=by
 unfold atE at h
 cases hf:P.find? (fun p=>decide (p.1=s)) with
 | none=>rw [hf] at h; cases h
 | some p=>
  rw [hf] at h
  have h1:=List.find?_some hf
  have h2:=List.mem_of_find?_eq_some hf
  obtain rfl:=Option.some.inj h
  rw [←of_decide_eq_true h1]
  exact h2
theorem at_none {P:List Ent} {s:ByteArray} (h:atE P s=none):s∉P.map (·.1):=fun hm=>by
 obtain⟨p,hp,rfl⟩:=List.mem_map.1 hm
 unfold atE at h
 rw [Option.map_eq_none_iff,List.find?_eq_none] at h
 exact absurd (decide_eq_true rfl) (h p hp)
theorem pairs_names (l:List Nd):∀ K:List Int,K.length % 2=0→(pairsN l K).map (·.1)=(evensN K).map (fun k=>(ndAt l k).s)
 | [],_=>rfl
 | [k],h=>by simp at h
 | k::m::r,h=>by
  rw [pairsN,evensN,List.map_cons,List.map_cons,pairs_names l r (by simp only [List.length_cons] at h; omega)]
theorem kid_names {l:List Nd} (h:isN l 8=true):(kidE l).map (·.1)=namesN l:=by
 rw [kidE,pairs_names l _ (root_even h),namesN,if_pos h]
theorem kid_nodup {l:List Nd} (h:isN l 8=true):((kidE l).map (·.1)).Nodup:=by
 rw [kid_names h]
 show List.Pairwise (fun a b=>a≠b) (namesN l)
 refine (dict_names h).imp fun {a b} h1 e=>?_
 subst e
 exact ltB_irrefl a h1
structure Tk (t:List Nd):Prop where
 ok:checkN t=0
 len:t.length≤60
 lt:Lt t
structure Dk (l:List Nd) (c:Nat):Prop where
 is:isN l 8=true
 lt:Lt l
 cnt:(kidE l).length≤c
 val:∀ p∈kidE l,p.2.length≤60
theorem Dk.more {l:List Nd} {c d:Nat} (h:Dk l c) (hd:c≤d):Dk l d:=⟨h.is,h.lt,Nat.le_trans h.cnt hd,h.val⟩
theorem sum_le:∀ P:List Ent,(∀ p∈P,p.2.length≤60)→lenE P≤P.length*61
 | [],_=>Nat.le_refl _
 | p::P,h=>by
  have h1:=sum_le P (fun q hq=>h q (List.mem_cons_of_mem _ hq))
  have h2:=h p (List.mem_cons_self ..)
  unfold lenE at h1 ⊢
  rw [List.map_cons,List.sum_cons,List.length_cons]
  omega
theorem wd_ok {P:List Ent} (hn:(P.map (·.1)).Nodup) (hok:∀ p∈P,EntOk p) (hl:P.length≤1000) (hv:∀ p∈P,p.2.length≤60):checkN (wd (srt P))=0:=by
 rcases wd_check (fun p hp=>hok p ((srt_perm P).mem_iff.1 hp)) (srt_up hn) with ⟨h,-⟩ | ⟨-,h | h⟩
 ·exact h
 ·rw [wd_len,lenE_perm (srt_perm P)] at h
  have:=sum_le P hv
  omega
 ·exfalso
  refine h fun x hx d hd=>?_
  obtain⟨p,hp,hx⟩:=mem_all.1 hx
  have hp:=(srt_perm P).mem_iff.1 hp
  rcases hx with rfl | rfl
  ·have:=deps_lenD (name_ok (hok p hp).name) d hd
   rw [List.length_singleton] at this
   omega
  ·have:=deps_lenD (hok p hp).tree d hd
   have:=hv p hp
   omega
theorem kid_wd {S:List Ent} (h:checkN (wd S)=0):kidE (wd S)=S:=by
 rw [kidE,show (ndAt (wd S) 0).kids=posN 1 (allN S) from whole_root 8 (allN S) ▸ rfl]
 exact pairs_whole h
structure SetDk (l t:List Nd) (s:ByteArray) (c:Nat):Prop where
 zero:(setN l s t).2=0
 dk:Dk (setN l s t).1 (c+1)
 new:getN (setN l s t).1 s=some t
 old:∀ k,k≠s→getN (setN l s t).1 k=getN l k
theorem set_dk {l t:List Nd} {s:ByteArray} {c:Nat} (h:Dk l c) (hc:c<1000) (ht:Tk t) (hn:nameN s=0) (hs:s.size≤1000000):SetDk l t s c:=by
 obtain⟨hcl,hk⟩:=is_facts h.is
 have hnd:((entsN l s++[(s,t)]).map (·.1)).Nodup:=add_nodup (but_nodup (kid_nodup h.is)) (fun p hp=>(mem_but.1 hp).2)
 have hlen:(entsN l s).length≤c:=Nat.le_trans (List.length_filter_le _ _) h.cnt
 have hoks:=ents_ok (but:=s) h.is h.lt
 have hmem:∀ p∈entsN l s++[(s,t)],p.1.size≤1000000∧EntOk p∧p.2.length≤60:=fun p hp=>by
  rcases List.mem_append.1 hp with hp | hp
  ·have h1:=hoks p hp
   exact⟨h1.1,⟨h1.2.1,h1.2.2.1⟩,h.val p (mem_but.1 hp).1⟩
  ·obtain rfl:=List.mem_singleton.1 hp
   exact⟨hs,⟨hn,ht.ok⟩,ht.len⟩
 have hck:=wd_ok hnd (fun p hp=>(hmem p hp).2.1) (by rw [List.length_append,List.length_singleton]; omega) (fun p hp=>(hmem p hp).2.2)
 have hf:firstN [l,t]=0:=(firstN_iff _).2 (fun x hx=>by
  simp only [List.mem_cons,List.not_mem_nil,or_false] at hx
  rcases hx with rfl | rfl
  ·exact hcl
  ·exact ht.ok)
 have his:setN l s t=(wd (srt (entsN l s++[(s,t)])),0):=by
  rw [setN,if_neg (by simp [hf]),if_neg (by simp [hk,hn]),dictN_of hnd,if_pos hck]
 have hz:(setN l s t).2=0:=by rw [his]
 obtain⟨-,hm⟩:=set_more h.lt ht.lt hs hz
 refine⟨hz,⟨hm.dict,hm.lt,?_,fun p hp=>?_⟩,?_,fun k hkk=>?_⟩
 ·rw [his,kid_wd hck,(srt_perm _).length_eq,List.length_append,List.length_singleton]
  omega
 ·rw [his,kid_wd hck] at hp
  exact (hmem p ((srt_perm _).mem_iff.1 hp)).2.2
 ·rw [his]
  exact back_get hnd hck (p:=(s,t)) (List.mem_append_right _ (List.mem_singleton.2 rfl))
 ·rw [his,get_at h.is]
  cases ha:atE (kidE l) k with
  | some v=>exact back_get hnd hck (p:=(k,v)) (List.mem_append_left _ (mem_but.2 ⟨at_mem ha,hkk⟩))
  | none=>
   refine get_not hck (fun hmm=>?_)
   obtain⟨p,hp,rfl⟩:=List.mem_map.1 hmm
   rcases List.mem_append.1 hp with hp | hp
   ·exact at_none ha (List.mem_map_of_mem (f:=(·.1)) (mem_but.1 hp).1)
   ·obtain rfl:=List.mem_singleton.1 hp
    exact hkk rfl
theorem onto_dk:∀ (E:List Ent) (l:List Nd) (c:Nat),Dk l c→c+E.length<1000→(∀ p∈E,Tk p.2∧nameN p.1=0∧p.1.size≤1000000)→Dk (ontoN l E) (c+E.length)∧∀ k,k∉E.map (·.1)→getN (ontoN l E) k=getN l k
 | [],l,c,h,_,_=>⟨h,fun k _=>rfl⟩
 | (s,t)::E,l,c,h,hc,hE=>by
  rw [List.length_cons] at hc ⊢
  obtain⟨h1,h2,h3⟩:=hE _ (List.mem_cons_self ..)
  have hst:Dk (if (getN l s).isSome=true then l else if (setN l s t).2=0 then (setN l s t).1 else l) (c+1)∧∀ k,k≠s→getN (if (getN l s).isSome=true then l else if (setN l s t).2=0 then (setN l s t).1 else l) k=getN l k:=by
   split
   ·exact⟨h.more (Nat.le_succ c),fun k _=>rfl⟩
   ·have hS:=set_dk h (by omega) h1 h2 h3
    rw [if_pos hS.zero]
    exact⟨hS.dk,hS.old⟩
  obtain⟨a,b⟩:=onto_dk E _ (c+1) hst.1 (by omega) (fun p hp=>hE p (List.mem_cons_of_mem _ hp))
  rw [ontoN]
  refine⟨a.more (by omega),fun k hk=>?_⟩
  rw [List.map_cons,List.mem_cons,not_or] at hk
  rw [b k hk.2,hst.2 k hk.1]
theorem pairs_sub {l:List Nd}:∀ (K:List Int),∀ p∈pairsN l K,∃ k:Nat,p.2=subN l k
 | [],p,h=>by cases h
 | [_],p,h=>by cases h
 | _::m::r,p,h=>by
  rw [pairsN] at h
  rcases List.mem_cons.1 h with rfl | h
  ·exact⟨m.toNat,rfl⟩
  ·exact pairs_sub r p h
theorem light_dk {l:List Nd} (h:isN l 8=true) (hl:lightL l 60=true) (ht:Lt l):Dk l 60:=by
 unfold lightL at hl
 rw [Bool.and_eq_true,List.all_eq_true,decide_eq_true_eq] at hl
 obtain⟨hc,-⟩:=is_facts h
 obtain⟨h0,-⟩:=check_zero hc
 have e:=ndAt_nat l 0 h0
 rw [show ((0:Nat):Int)=0 from rfl] at e
 have hk:=hl.1 _ (List.getElem_mem h0)
 rw [decide_eq_true_eq,←e] at hk
 have hp:=pairs_len l (ndAt l 0).kids
 refine⟨h,ht,by show (pairsN l (ndAt l 0).kids).length≤60; omega,fun p hp=>?_⟩
 obtain⟨k,hk⟩:=pairs_sub _ p hp
 rw [hk]
 have:=sub_le l k
 omega
theorem type_get {l m:List Nd} {nm:ByteArray} (h:getN m kType=getN l kType):typeN m nm=typeN l nm:=by unfold typeN; rw [h]
theorem type_dict {l:List Nd} {nm:ByteArray} (h:typeN l nm=true):isN l 8=true:=by
 unfold typeN at h
 cases hg:getN l kType with
 | none=>rw [hg] at h; cases h
 | some v=>exact (get_ok hg).1
theorem type_one {l:List Nd} {a b:ByteArray} (ha:typeN l a=true) (hb:typeN l b=true):a=b:=by
 unfold typeN at ha hb
 cases hg:getN l kType with
 | none=>rw [hg] at ha; cases ha
 | some v=>
  rw [hg] at ha hb
  simp only [Bool.and_eq_true,beq_iff_eq] at ha hb
  exact tl_inj.1 (ha.2.symm.trans hb.2)
theorem type_not {l:List Nd} {a b:ByteArray} (ha:typeN l a=true) (hn:a≠b):typeN l b=false:=by
 cases hb:typeN l b with
 | false=>rfl
 | true=>exact absurd (type_one ha hb) hn
theorem tk_ref (r:Rf) (h:checkN (refT r)=0):Tk (refT r):=⟨h,by show 1≤60; omega,lt_ref r⟩
theorem nmParent:nameN kParent=0:=by kernel_rfl
theorem nmPages:nameN kPages=0:=by kernel_rfl
theorem nmKids:nameN kKids=0:=by kernel_rfl
theorem nmCount:nameN kCount=0:=by kernel_rfl
theorem nmD4:∀ s∈names4,nameN s=0:=by
 intro s hs
 have:names4=[kCrop,kMedia,kRes,kRot]:=rfl
 rw [this] at hs
 simp only [List.mem_cons,List.not_mem_nil,or_false] at hs
 have n1:nameN kCrop=0:=by kernel_rfl
 have n2:nameN kMedia=0:=by kernel_rfl
 have n3:nameN kRes=0:=by kernel_rfl
 have n4:nameN kRot=0:=by kernel_rfl
 rcases hs with rfl | rfl | rfl | rfl
 ·exact n1
 ·exact n2
 ·exact n3
 ·exact n4
theorem not4:kType∉names4:=fun h=>by
 have:kType=kCrop∨kType=kMedia∨kType=kRes∨kType=kRot:=by simpa [names4] using h
 rcases this with h | h | h | h <;> exact absurd h (by decide)
def HgTk (G:Hg):Prop:=∀ s t,G s=some t→Tk t
theorem get_tk {l:List Nd} {s:ByteArray} {v:List Nd} (h:getN l s=some v) (hl:l.length≤60) (ht:Lt l):Tk v:=by
 obtain⟨h1,-,h3⟩:=get_tree h
 exact⟨h1,by omega,get_lt h ht⟩
theorem withG_tk {G:Hg} {l:List Nd} (hG:HgTk G) (hl:l.length≤60) (ht:Lt l):HgTk (withG G l):=fun s t h=>by
 unfold withG at h
 split at h
 ·cases hg:getN l s with
  | none=>rw [hg] at h; exact hG s t h
  | some u=>rw [hg] at h; obtain rfl:=Option.some.inj h; exact get_tk hg hl ht
 ·exact hG s t h
theorem page_dk {l:List Nd} {G:Hg} (hl:Dk l 60) (hG:HgTk G):Dk (ontoN l (entsG G (gdE G))) 64∧∀ k,k∉names4→getN (ontoN l (entsG G (gdE G))) k=getN l k:=by
 have h1:∀ p∈entsG G (gdE G),p.1∈names4∧Tk p.2:=fun p hp=>by
  obtain⟨s,hs,rfl⟩:=List.mem_map.1 hp
  obtain⟨h2,h3⟩:=List.mem_filter.1 hs
  obtain⟨t,ht⟩:=Option.isSome_iff_exists.1 h3
  refine⟨h2,?_⟩
  show Tk ((G s).getD [])
  rw [ht]
  exact hG s t ht
 have hlen:(entsG G (gdE G)).length≤4:=by unfold entsG; rw [List.length_map]; exact gdE_len G
 obtain⟨a,b⟩:=onto_dk (entsG G (gdE G)) l 60 hl (by omega) (fun p hp=>⟨(h1 p hp).2,nmD4 _ (h1 p hp).1,names4_size _ (h1 p hp).1⟩)
 refine⟨a.more (by omega),fun k hk=>b k (fun hm=>hk ?_)⟩
 obtain⟨p,hp,rfl⟩:=List.mem_map.1 hm
 exact (h1 p hp).1
structure WkOk (L:List Om) (y:Om):Prop where
 of:∃ x G,x∈L∧pageN x=true∧HgTk G∧y=pageO x G
theorem walkF_wk (L:List Om) (hL:∀ x∈L,x.tree.length≤60∧Lt x.tree):∀ (n:Nat) (st:List (Rf×Hg)) (seen:List Rf) (out:List Om),(∀ s∈st,HgTk s.2)→(∀ y∈out,WkOk L y)→∀ y∈walkF L n st seen out,WkOk L y
 | 0,st,seen,out,hs,ho=>ho
 | n+1,[],seen,out,hs,ho=>ho
 | n+1,(r,G)::st,seen,out,hs,ho=>by
  have hs2:∀ s∈st,HgTk s.2:=fun s h=>hs s (List.mem_cons_of_mem _ h)
  have hG:HgTk G:=hs _ (List.mem_cons_self ..)
  rw [walkF]
  cases hf:findO L r with
  | none=>exact walkF_wk L hL n st seen out hs2 ho
  | some x=>
   have hx:=(findO_mem hf).1
   simp only
   split
   ·exact walkF_wk L hL n st seen out hs2 ho
   split
   ·rename_i hp
    refine walkF_wk L hL n st _ _ hs2 (fun y hy=>?_)
    rcases List.mem_append.1 hy with hy | hy
    ·exact ho y hy
    ·obtain rfl:=List.mem_singleton.1 hy
     exact⟨x,G,hx,hp,hG,rfl⟩
   split
   ·exact walkF_wk L hL n st _ _ hs2 ho
   ·refine walkF_wk L hL n _ _ _ (fun s h=>?_) ho
    rcases List.mem_append.1 h with h | h
    ·obtain⟨k,-,rfl⟩:=List.mem_map.1 h
     exact withG_tk hG (hL x hx).1 (hL x hx).2
    ·exact hs2 s h
theorem walkN_wk (root:Rf) (L:List Om) (hL:∀ x∈L,x.tree.length≤60∧Lt x.tree):∀ y∈walkN root L,WkOk L y:=by
 unfold walkN
 split
 ·exact fun y h=>by cases h
 ·split
  ·exact fun y h=>by cases h
  ·split
   ·exact fun y h=>by cases h
   ·exact walkF_wk L hL _ _ _ _ (fun s h=>by
     obtain rfl:=List.mem_singleton.1 h
     exact fun s t h=>by cases h) (fun y h=>by cases h)
def pgT:List Nd:=typedN kPage
def pgM (v:Value) (n:Int):Om:=⟨n,0,v,false,⟨#[]⟩,pgT⟩
theorem pg_kids:kidsN pgT=([],false,false):=by unfold pgT; rw [typed_page]; kernel_rfl
theorem pg_type:typeN pgT kPage=true:=by unfold pgT; rw [typed_page]; kernel_rfl
theorem pg_check:checkN pgT=0:=by unfold pgT; rw [typed_page]; kernel_rfl
theorem pg_refs:refsN pgT=[]:=by unfold pgT; rw [typed_page]; kernel_rfl
theorem pg_lt:Lt pgT:=(kok_typed kPage typed_page (by decide)).lt
theorem pg_len:pgT.length=3:=by unfold pgT; rw [typed_page]; rfl
theorem pg_cnt:cntE pgT≤1:=(kok_typed kPage typed_page (by decide)).cnt
theorem pg_page (v:Value) (n:Int):pageN (pgM v n)=true:=by
 show (!false&&typeN pgT kPage)=true
 rw [pg_type]; rfl
def moreL (L:List Om) (v:Value) (n:Int):List Om:=L++[pgM v n,pgM v (n+1)]
theorem find_more {L:List Om} {v:Value} {n:Int} {r:Rf} (h:r.1<n):findO (moreL L v n) r=findO L r:=by
 unfold findO moreL
 rw [List.find?_append]
 have h1:isR r (pgM v n)=false:=by
  show (decide (n=r.1)&&_)=false
  rw [decide_eq_false (by omega)]; rfl
 have h2:isR r (pgM v (n+1))=false:=by
  show (decide (n+1=r.1)&&_)=false
  rw [decide_eq_false (by omega)]; rfl
 rw [List.find?_cons,h1,List.find?_cons,h2,List.find?_nil]
 cases List.find? (isR r) L <;> rfl
theorem find_not {L:List Om} {n:Int} {r:Rf} (hL:∀ x∈L,x.num<n) (h:n≤r.1):findO L r=none:=by
 unfold findO
 rw [List.find?_eq_none]
 intro x hx hr
 unfold isR at hr
 rw [Bool.and_eq_true,decide_eq_true_eq] at hr
 have:=hL x hx
 omega
theorem find_a {L:List Om} {v:Value} {n:Int} (hL:∀ x∈L,x.num<n):findO (moreL L v n) (n,0)=some (pgM v n):=by
 have h:=find_not (r:=(n,0)) hL (Int.le_refl n)
 unfold findO at h ⊢
 unfold moreL
 rw [List.find?_append,h,List.find?_cons,show isR (n,0) (pgM v n)=true by simp [isR,pgM]]
 rfl
theorem find_b {L:List Om} {v:Value} {n:Int} (hL:∀ x∈L,x.num<n):findO (moreL L v n) (n+1,0)=some (pgM v (n+1)):=by
 have h:=find_not (r:=(n+1,0)) hL (show n≤n+1 by omega)
 unfold findO at h ⊢
 unfold moreL
 have h1:isR (n+1,0) (pgM v n)=false:=by
  show (decide (n=n+1)&&_)=false
  rw [decide_eq_false (by omega)]; rfl
 rw [List.find?_append,h,List.find?_cons,h1,List.find?_cons,show isR (n+1,0) (pgM v (n+1))=true by simp [isR,pgM]]
 rfl
theorem pot_more (v:Value) (n:Int):∀ (L:List Om) (seen:List Rf),potN (moreL L v n) seen=potN L seen
 | [],seen=>by
  show potN [pgM v n,pgM v (n+1)] seen=0
  rw [potN,potN,potN,show (kidsN (pgM v n).tree).1.length=0 by rw [show (pgM v n).tree=pgT from rfl,pg_kids]; rfl,show (kidsN (pgM v (n+1)).tree).1.length=0 by rw [show (pgM v (n+1)).tree=pgT from rfl,pg_kids]; rfl]
  split <;> split <;> rfl
 | x::L,seen=>by
  show potN (x::moreL L v n) seen=_
  rw [potN,potN,pot_more v n L seen]
theorem walkF_more {L:List Om} {v:Value} {n:Int} (hL:∀ x∈L,∀ r∈refsN x.tree,r.1<n):∀ (f:Nat) (st:List (Rf×Hg)) (seen:List Rf) (out:List Om),(∀ s∈st,s.1.1<n)→walkF (moreL L v n) f st seen out=walkF L f st seen out
 | 0,st,seen,out,hs=>rfl
 | f+1,[],seen,out,hs=>rfl
 | f+1,(r,G)::st,seen,out,hs=>by
  have hs2:∀ s∈st,s.1.1<n:=fun s h=>hs s (List.mem_cons_of_mem _ h)
  have hr:r.1<n:=hs _ (List.mem_cons_self ..)
  rw [walkF,walkF,find_more hr]
  cases hf:findO L r with
  | none=>exact walkF_more hL f st seen out hs2
  | some x=>
   have hx:=(findO_mem hf).1
   simp only
   split
   ·exact walkF_more hL f st seen out hs2
   split
   ·exact walkF_more hL f st _ _ hs2
   split
   ·exact walkF_more hL f st _ _ hs2
   ·refine walkF_more hL f _ _ _ (fun s h=>?_)
    rcases List.mem_append.1 h with h | h
    ·obtain⟨k,hk,rfl⟩:=List.mem_map.1 h
     exact hL x hx k (kids_ref hk)
    ·exact hs2 s h
theorem walkN_more {root:Rf} {L:List Om} {v:Value} {n:Int} (hL:∀ x∈L,∀ r∈refsN x.tree,r.1<n) (hr:root.1<n):walkN root (moreL L v n)=walkN root L:=by
 unfold walkN
 rw [find_more hr]
 cases hf:findO L root with
 | none=>rfl
 | some x=>
  simp only
  split
  ·rfl
  split
  ·rfl
  ·rename_i h1 h2
   rw [pot_more]
   refine walkF_more hL _ _ _ _ (fun s hs=>?_)
   obtain rfl:=List.mem_singleton.1 hs
   exact hL x (findO_mem hf).1 _ (to_ref (by simpa using h2))
theorem loneF_pre (L:List Om):∀ (rs hv out:List Rf),∃ t,loneF L rs hv out=out++t
 | [],hv,out=>⟨[],by rw [loneF,List.append_nil]⟩
 | r::rs,hv,out=>by
  rw [loneF]
  split
  ·obtain⟨t,ht⟩:=loneF_pre L rs (hv++[r]) (out++[r])
   exact⟨[r]++t,by rw [ht,List.append_assoc]⟩
  ·exact loneF_pre L rs hv out
theorem lone_none {L:List Om}:∀ (rs hv:List Rf),loneF L rs hv []=[]→∀ r∈rs,isPg L r=true→r∈hv
 | [],hv,h,r,hr,_=>by cases hr
 | q::rs,hv,h,r,hr,hp=>by
  rw [loneF] at h
  split at h
  ·obtain⟨t,ht⟩:=loneF_pre L rs (hv++[q]) ([]++[q])
   rw [ht] at h
   cases h
  ·rename_i hn
   rcases List.mem_cons.1 hr with rfl | hr
   ·exact Classical.byContradiction fun h2=>hn ⟨hp,h2⟩
   ·exact lone_none rs hv h r hr hp
theorem lone_rest {L:List Om}:∀ (rs hv out:List Rf),(∀ r∈rs,isPg L r=true→r∈hv)→loneF L rs hv out=out
 | [],hv,out,_=>rfl
 | q::rs,hv,out,h=>by
  rw [loneF,if_neg (fun hc=>hc.2 (h q (List.mem_cons_self ..) hc.1))]
  exact lone_rest rs hv out (fun r hr=>h r (List.mem_cons_of_mem _ hr))
def ordL (n:Int) (turned:Bool):List Rf:=if turned=true then [(n+1,0),(n,0)] else [(n,0),(n+1,0)]
theorem loneM_more {root:Rf} {L:List Om} {v:Value} {n:Int} {turned:Bool} (hn:∀ x∈L,x.num<n) (hL:∀ x∈L,∀ r∈refsN x.tree,r.1<n) (hr:root.1<n) (h0:loneM root L []=[]):loneM root (moreL L v n) (ordL n turned)=ordL n turned:=by
 unfold loneM loneN at h0 ⊢
 rw [List.nil_append] at h0
 rw [walkN_more hL hr]
 have hw:∀ r∈keysO (walkN root L),r.1<n:=fun r hr=>by
  obtain⟨x,hx⟩:=some_hasO ((walkN_ok root L).2 r hr)
  have h1:=findO_mem hx
  have h2:=hn x h1.1
  rw [h1.2]
  exact h2
 generalize keysO (walkN root L)=W at h0 hw
 have ia:isPg (moreL L v n) (n,0)=true:=by unfold isPg; rw [find_a hn]; exact pg_page v n
 have ib:isPg (moreL L v n) (n+1,0)=true:=by unfold isPg; rw [find_b hn]; exact pg_page v (n+1)
 have na:((n,0):Rf)∉W:=fun h=>by have:=hw _ h; simp at this
 have nb:((n+1,0):Rf)∉W:=fun h=>by have:=hw _ h; simp at this; omega
 have hkey:∀ r∈keysO (moreL L v n),isPg (moreL L v n) r=true→r∈W∨r=(n,0)∨r=(n+1,0):=fun r hr hp=>by
  unfold moreL at hr
  rw [keysO_append,List.mem_append] at hr
  rcases hr with hr | hr
  ·left
   have h1:r.1<n:=by
    obtain⟨x,hx,rfl⟩:=List.mem_map.1 hr
    exact hn x hx
   refine lone_none _ _ h0 r hr ?_
   unfold isPg at hp ⊢
   rw [find_more h1] at hp
   exact hp
  ·right
   simpa [keysO,pgM] using hr
 cases turned with
 | true=>
  show loneF _ ((n+1,0)::(n,0)::keysO (moreL L v n)) W []=[(n+1,0),(n,0)]
  rw [loneF,if_pos ⟨ib,nb⟩,loneF,if_pos ⟨ia,fun h=>by
   rcases List.mem_append.1 h with h | h
   ·exact na h
   ·have:=congrArg Prod.fst (List.mem_singleton.1 h); simp at this; omega⟩]
  exact lone_rest _ _ _ (fun r hr hp=>by
   rcases hkey r hr hp with h | rfl | rfl
   ·simp [h]
   ·simp
   ·simp)
 | false=>
  show loneF _ ((n,0)::(n+1,0)::keysO (moreL L v n)) W []=[(n,0),(n+1,0)]
  rw [loneF,if_pos ⟨ia,na⟩,loneF,if_pos ⟨ib,fun h=>by
   rcases List.mem_append.1 h with h | h
   ·exact nb h
   ·have:=congrArg Prod.fst (List.mem_singleton.1 h); simp at this; omega⟩]
  exact lone_rest _ _ _ (fun r hr hp=>by
   rcases hkey r hr hp with h | rfl | rfl
   ·simp [h]
   ·simp
   ·simp)
def RefIn (r:Rf):Prop:=(1≤r.1∧r.1≤8388607)∧0≤r.2∧r.2≤65535
theorem ck_ref {r:Rf} (h:RefIn r):checkN (refT r)=0:=one_ok rfl (by show (9:Int)≠8; omega) (by
 obtain⟨⟨h1,h2⟩,h3,h4⟩:=h
 simp [bareN,h1,h2,h3,h4])
theorem tk_ref' {r:Rf} (h:RefIn r):Tk (refT r):=tk_ref r (ck_ref h)
theorem ck_int {k:Nat} (h:k≤1000):checkN (intT k)=0:=one_ok rfl (by show (3:Int)≠8; omega) (by
 simp [bareN]
 omega)
theorem tk_int {k:Nat} (h:k≤1000):Tk (intT k):=⟨ck_int h,by show 1≤60; omega,lt_int _⟩
theorem len_refs:∀ rs:List Rf,lenN (rs.map refT)=rs.length
 | []=>rfl
 | r::rs=>by
  rw [List.map_cons,lenN,len_refs rs,List.length_cons]
  show 1+_=_
  omega
theorem refs_check {rs:List Rf} (h:∀ r∈rs,RefIn r) (hl:rs.length≤1000):checkN (wholeN 7 (rs.map refT))=0:=by
 have hck:∀ x∈rs.map refT,checkN x=0:=fun x hx=>by
  obtain⟨r,hr,rfl⟩:=List.mem_map.1 hx
  exact ck_ref (h r hr)
 rcases whole_check hck (root7 _) with ⟨h0,-⟩ | ⟨-,h0 | h0⟩
 ·exact h0
 ·rw [whole_len,len_refs] at h0
  omega
 ·exfalso
  refine h0 fun x hx d hd=>?_
  have:=deps_lenD (hck x hx) d hd
  obtain⟨r,hr,rfl⟩:=List.mem_map.1 hx
  have e:(refT r).length=1:=rfl
  rw [e] at this
  omega
theorem array_refs {rs:List Rf} (h:∀ r∈rs,RefIn r) (hl:rs.length≤1000):arrayN (rs.map refT)=(wholeN 7 (rs.map refT),0):=by
 have hck:∀ x∈rs.map refT,checkN x=0:=fun x hx=>by
  obtain⟨r,hr,rfl⟩:=List.mem_map.1 hx
  exact ck_ref (h r hr)
 rw [arrayN,if_pos ((firstN_iff _).2 hck),under_is,if_pos (refs_check h hl)]
theorem fold_refs {v:List Nd}:∀ (rs:List Rf) (b:Nat) (acc:List Rf),NdPuts v b (rs.map refT)→(posN b (rs.map refT)).foldl (fun st k=>if (linkN (ndAt v k)).2=true then (st.1++[(linkN (ndAt v k)).1],st.2) else (st.1,false)) (acc,true)=(acc++rs,true)
 | [],b,acc,h=>by
  show (acc,true)=_
  rw [List.append_nil]
 | r::rs,b,acc,h=>by
  rw [List.map_cons] at h ⊢
  rw [posN,List.foldl_cons]
  have hn:ndAt v (b:Int)=⟨9,r.1,r.2,⟨#[]⟩,[]⟩:=by
   have:=nd_put h.1 (c:=0) (by omega) (by show (0:Int)<((1:Nat):Int); omega)
   rw [Int.zero_add] at this
   rw [this]
   rfl
  have hlk:linkN (ndAt v (b:Int))=(r,true):=by rw [hn]; rfl
  rw [hlk,if_pos rfl]
  have:=fold_refs rs (b+(refT r).length) (acc++[r]) h.2
  rw [this,List.append_assoc]
  rfl
theorem kids_refs (rs:List Rf):kidF (wholeN 7 (rs.map refT)) (ndAt (wholeN 7 (rs.map refT)) 0).kids=(rs,true):=by
 rw [whole_root]
 show kidF _ (posN 1 (rs.map refT))=_
 rw [kidF,fold_refs rs 1 [] (whole_puts 7 _),List.nil_append]
structure LOk (L:List Om) (n:Int) (y:Om):Prop where
 dk:Dk y.tree 64
 page:pageN y=true
 src:(∃ x∈L,pageN x=true∧x.num=y.num)∨y.num=n∨y.num=n+1
 key:RefIn (refO y)
 wf:OmWf y
theorem page_of {x:Om} (h:pageN x=true):x.stream=false∧typeN x.tree kPage=true:=by
 unfold pageN at h
 rw [Bool.and_eq_true,Bool.not_eq_true'] at h
 exact h
theorem of_page {x:Om} (h1:x.stream=false) (h2:typeN x.tree kPage=true):pageN x=true:=by
 unfold pageN
 rw [h1,h2]; rfl
theorem cat_of {x:Om} (h:catN x=true):x.stream=false∧typeN x.tree kCatalog=true:=by
 unfold catN at h
 rw [Bool.and_eq_true,Bool.not_eq_true'] at h
 exact h
theorem of_cat {x:Om} (h1:x.stream=false) (h2:typeN x.tree kCatalog=true):catN x=true:=by
 unfold catN
 rw [h1,h2]; rfl
theorem pgO_ok {t:Rf} {y:Om} (hd:Dk y.tree 64) (hp:pageN y=true) (ht:RefIn t):Dk (pgO t y).tree 65∧pageN (pgO t y)=true:=by
 have hS:=set_dk hd (by omega) (tk_ref' ht) nmParent (by decide)
 obtain⟨p1,p2⟩:=page_of hp
 exact⟨hS.dk,of_page p1 ((type_get (hS.old kType (by decide))).trans p2)⟩
theorem rootO_ok {t:Rf} {x:Om} (hd:Dk x.tree 60) (hc:catN x=true) (ht:RefIn t):Dk (rootO t x).tree 61∧catN (rootO t x)=true∧toN (rootO t x).tree kPages=(t,true):=by
 have hS:=set_dk hd (by omega) (tk_ref' ht) nmPages (by decide)
 obtain⟨p1,p2⟩:=cat_of hc
 refine⟨hS.dk,of_cat p1 ((type_get (hS.old kType (by decide))).trans p2),?_⟩
 show toN (setN x.tree kPages (refT t)).1 kPages=_
 unfold toN
 rw [hS.new]
 rfl
theorem typed_dk {s:ByteArray} (h:typedN s=[⟨8,0,0,⟨#[]⟩,[1,2]⟩,nameNd kType,nameNd s]) (hs:s.size≤2000) (hn:isN [⟨8,0,0,⟨#[]⟩,[1,2]⟩,nameNd kType,nameNd s] 8=true):Dk (typedN s) 60:=by
 have hk:=kok_typed s h (by omega)
 refine light_dk (by rw [h]; exact hn) ?_ hk.lt
 rw [h]
 simp [lightL,nameNd]
 exact⟨by decide,by decide,hs⟩
theorem pages_dk:Dk (typedN kPages) 60:=typed_dk typed_pages (by decide) (by kernel_rfl)
theorem page_dk0:Dk pgT 60:=typed_dk typed_page (by decide) (by kernel_rfl)
theorem pages_type:typeN (typedN kPages) kPages=true:=by rw [typed_pages]; kernel_rfl
theorem nodeO_ok {t:Rf} {l:List Om} (hl:∀ y∈l,RefIn (refO y)) (hn:l.length≤50):Dk (nodeO t l).tree 62∧pageN (nodeO t l)=false∧kidsN (nodeO t l).tree=(l.map refO,true,true):=by
 have hrs:∀ r∈l.map refO,RefIn r:=fun r hr=>by
  obtain⟨y,hy,rfl⟩:=List.mem_map.1 hr
  exact hl y hy
 have hll:(l.map refO).length≤50:=by rw [List.length_map]; exact hn
 have hK:kidsT l=wholeN 7 ((l.map refO).map refT):=by
  unfold kidsT
  rw [show (l.map fun x=>refT (refO x))=(l.map refO).map refT by rw [List.map_map]; rfl,array_refs hrs (by omega)]
 have hT:Tk (kidsT l):=⟨by rw [hK]; exact refs_check hrs (by omega),by rw [hK,whole_len,len_refs]; omega,lt_kids l⟩
 have h1:=set_dk pages_dk (by omega) hT nmKids (by decide)
 have h2:=set_dk h1.dk (by omega) (tk_int (k:=l.length) (by omega)) nmCount (by decide)
 have g1:getN (nodeO t l).tree kType=getN (typedN kPages) kType:=(h2.old kType (by decide)).trans (h1.old kType (by decide))
 have g2:getN (nodeO t l).tree kKids=some (kidsT l):=(h2.old kKids (by decide)).trans h1.new
 refine⟨h2.dk,?_,?_⟩
 ·have hty:typeN (nodeO t l).tree kPage=false:=type_not ((type_get g1).trans pages_type) (by decide)
  unfold pageN
  rw [hty,Bool.and_false]
 ·unfold kidsN
  rw [g2,hK]
  have hk7:(ndAt (wholeN 7 ((l.map refO).map refT)) 0).kind=7:=rfl
  simp only [hk7,if_true]
  rw [kids_refs]
theorem lasts_all:∀ {M:List Om},(M.Pairwise fun x y=>x.num≠y.num)→lastsO M=M
 | [],_=>rfl
 | x::M,h=>by
  obtain⟨h1,h2⟩:=List.pairwise_cons.1 h
  rw [lastsO,if_neg (fun hn=>by
   unfold hasN at hn
   rw [List.any_eq_true] at hn
   obtain⟨y,hy,he⟩:=hn
   exact h1 y hy (by simpa using (beq_iff_eq.1 he).symm)),lasts_all h2]
theorem find_self {ML:List Om} (h:ML.Pairwise fun x y=>x.num<y.num) {z:Om} (hz:z∈ML):findO ML (refO z)=some z:=by
 cases hf:findO ML (refO z) with
 | none=>
  unfold findO at hf
  rw [List.find?_eq_none] at hf
  exact absurd (by simp [isR,refO]) (hf z hz)
 | some x=>
  have h1:=findO_mem hf
  rw [rise_inj h h1.1 hz (by have:=congrArg Prod.fst h1.2; exact this.symm)]
theorem find_made {ML Z:List Om} (h:ML.Pairwise fun x y=>x.num<y.num) (hp:(ML.map bare).Perm (Z.map bare)) {y:Om} (hy:y∈Z):∃ z,findO ML (refO y)=some z∧bare z=bare y:=by
 have h1:bare y∈ML.map bare:=hp.mem_iff.2 (List.mem_map_of_mem hy)
 obtain⟨z,hz,he⟩:=List.mem_map.1 h1
 refine⟨z,?_,he⟩
 have hk:refO y=refO z:=Prod.ext (congrArg Om.num he).symm (congrArg Om.gen he).symm
 rw [hk]
 exact find_self h hz
theorem bare_page {z y:Om} (h:bare z=bare y):pageN z=pageN y∧catN z=catN y∧z.tree=y.tree∧z.stream=y.stream∧refO z=refO y:=by
 have h1:z.stream=y.stream:=(congrArg Om.stream h:(bare z).stream=(bare y).stream)
 have h2:z.tree=y.tree:=(congrArg Om.tree h:(bare z).tree=(bare y).tree)
 have h3:z.num=y.num:=(congrArg Om.num h:(bare z).num=(bare y).num)
 have h4:z.gen=y.gen:=(congrArg Om.gen h:(bare z).gen=(bare y).gen)
 unfold pageN catN refO
 rw [h1,h2,h3,h4]
 exact⟨rfl,rfl,rfl,rfl,rfl⟩
theorem walk_pages {ML:List Om} {G:Hg}:∀ (l:List Rf) (f:Nat) (seen:List Rf) (out:List Om),(∀ r∈l,∃ z,findO ML r=some z∧pageN z=true)→l.Nodup→(∀ r∈l,r∉seen)→l.length≤f→keysO (walkF ML f (l.map fun r=>(r,G)) seen out)=keysO out++l
 | [],0,seen,out,_,_,_,_=>by rw [List.append_nil]; rfl
 | [],f+1,seen,out,_,_,_,_=>by rw [List.append_nil]; rfl
 | r::l,0,seen,out,_,_,_,h=>by cases h
 | r::l,f+1,seen,out,hp,hn,hs,hf=>by
  obtain⟨z,hz,hzp⟩:=hp r (List.mem_cons_self ..)
  obtain⟨hn1,hn2⟩:=List.nodup_cons.1 hn
  rw [List.map_cons,walkF,hz]
  simp only
  rw [if_neg (hs r (List.mem_cons_self ..)),if_pos hzp]
  rw [walk_pages l f (seen++[r]) (out++[pageO z G]) (fun q hq=>hp q (List.mem_cons_of_mem _ hq)) hn2 (fun q hq hm=>by
   rcases List.mem_append.1 hm with hm | hm
   ·exact hs q (List.mem_cons_of_mem _ hq) hm
   ·obtain rfl:=List.mem_singleton.1 hm
    exact hn1 hq) (by rw [List.length_cons] at hf; omega),keysO_append,List.append_assoc]
  have:keysO [pageO z G]=[r]:=by
   have h1:=(findO_mem hz).2
   rw [h1]; rfl
  rw [this]
  rfl
theorem walkN_made {ML:List Om} {root t:Rf} {zr zn:Om} {rs:List Rf} (hr:findO ML root=some zr) (hc:catN zr=true) (ht:toN zr.tree kPages=(t,true)) (hn:findO ML t=some zn) (hnp:pageN zn=false) (hst:zn.stream=false) (hk:kidsN zn.tree=(rs,true,true)) (hp:∀ r∈rs,∃ z,findO ML r=some z∧pageN z=true) (hd:rs.Nodup) (hs:t∉rs):keysO (walkN root ML)=rs:=by
 unfold walkN
 rw [hr]
 simp only
 rw [hc,ht,if_neg (by simp),if_neg (by simp)]
 have hpot:=pot_less (seen:=[]) hn (by simp)
 rw [hk] at hpot
 obtain⟨P,hP⟩:∃ P,potN ML []=P:=⟨_,rfl⟩
 rw [hP] at hpot ⊢
 rw [Nat.add_comm 1 P,walkF,hn]
 simp only
 rw [if_neg (by simp),if_neg (by rw [hnp]; simp),if_neg (by unfold leafN; rw [hst,hk]; simp),hk,List.append_nil]
 have h1:=walk_pages (ML:=ML) (G:=withG (fun _=>none) zn.tree) rs P ([]++[t]) [] hp hd (fun r hr hm=>by
  have:=List.mem_singleton.1 (by simpa using hm:r∈[t])
  subst this
  exact hs hr) (by dsimp only at hpot; omega)
 exact h1
structure GrOk (root:Rf) (L:List Om) (n:Int):Prop where
 wf:∀ x∈L,OmWf x
 light:∀ x∈L,lightL x.tree 60=true
 len:L.length≤20
 check:checkP root L=0
 lone:loneM root L []=[]
 num:n=mostN root L+1
 top:n≤131072
theorem GrOk.strict {root:Rf} {L:List Om} {n:Int} (h:GrOk root L n):strictN L=0:=by
 have:=h.check
 unfold checkP at this
 split at this
 ·cases this
 ·rename_i h1; exact Decidable.byContradiction fun h2=>h1 h2
theorem GrOk.root {root:Rf} {L:List Om} {n:Int} (h:GrOk root L n):∃ x,findO L root=some x∧catN x=true:=by
 have h1:=h.check
 unfold checkP at h1
 rw [if_neg (by rw [h.strict]; simp)] at h1
 unfold treeP at h1
 cases hf:findO L root with
 | none=>rw [hf] at h1; cases h1
 | some x=>
  rw [hf] at h1
  simp only at h1
  cases hc:catN x with
  | true=>exact⟨x,rfl,hc⟩
  | false=>rw [hc,if_pos rfl] at h1; cases h1
theorem strictF_put:∀ (L:List Om) (p:Option Int),strictF p L=true→∀ x∈L,putN x=0
 | [],_,_,x,hx=>by cases hx
 | y::r,p,h,x,hx=>by
  rw [strictF,Bool.and_eq_true] at h
  rcases List.mem_cons.1 hx with rfl | hx
  ·have hb:=h.1
   unfold badS at hb
   rw [Bool.not_eq_true',Bool.or_eq_false_iff,Bool.or_eq_false_iff] at hb
   simpa using hb.1.2
  ·exact strictF_put r _ h.2 x hx
theorem put_facts {x:Om} (h:putN x=0):RefIn (refO x)∧checkN x.tree=0:=by
 unfold putN at h
 split at h
 ·cases h
 ·rename_i h1
  split at h
  ·rename_i h2; exact absurd h h2
  ·rename_i h2
   refine⟨⟨⟨?_,?_⟩,?_,?_⟩,Decidable.byContradiction h2⟩
   ·show 1≤x.num; omega
   ·show x.num≤8388607; omega
   ·show 0≤x.gen; omega
   ·show x.gen≤65535; omega
theorem GrOk.puts {root:Rf} {L:List Om} {n:Int} (h:GrOk root L n):∀ x∈L,RefIn (refO x)∧checkN x.tree=0:=fun x hx=>by
 have hs:=h.strict
 unfold strictN at hs
 split at hs
 ·rename_i h1; exact put_facts (strictF_put L none h1 x hx)
 ·cases hs
theorem GrOk.small {root:Rf} {L:List Om} {n:Int} (h:GrOk root L n):∀ x∈L,x.tree.length≤60∧Lt x.tree:=fun x hx=>by
 have hl:=h.light x hx
 unfold lightL at hl
 rw [Bool.and_eq_true,decide_eq_true_eq] at hl
 exact⟨by omega,(h.wf x hx).lt⟩
theorem light_cnt {l:List Nd} (h:lightL l 60=true):cntE l≤60:=by
 unfold lightL at h
 rw [Bool.and_eq_true,List.all_eq_true] at h
 have hp:=pairs_len l (ndAt l 0).kids
 cases l with
 | nil=>exact Nat.zero_le _
 | cons x r=>
  have hk:=h.1 x (List.mem_cons_self ..)
  rw [decide_eq_true_eq] at hk
  have e:ndAt (x::r) 0=x:=rfl
  rw [e] at hp
  show (pairsN (x::r) (ndAt (x::r) 0).kids).length≤60
  rw [e]
  omega
theorem GrOk.nums {root:Rf} {L:List Om} {n:Int} (h:GrOk root L n):(∀ x∈L,x.num<n)∧(∀ x∈L,∀ r∈refsN x.tree,r.1<n)∧root.1<n∧1≤n:=by
 have hn:=h.num
 unfold mostN at hn
 obtain⟨a1,a2,-⟩:=max_spec (L.map (·.num)) (maxN ((refsL root L).map (·.1)) 0)
 obtain⟨b1,b2,-⟩:=max_spec ((refsL root L).map (·.1)) 0
 refine⟨fun x hx=>?_,fun x hx r hr=>?_,?_,by omega⟩
 ·have:=a2 _ (List.mem_map_of_mem (f:=(·.num)) hx)
  omega
 ·have:=b2 r.1 (List.mem_map.2 ⟨r,List.mem_cons_of_mem _ (List.mem_flatMap.2 ⟨x,hx,hr⟩),rfl⟩)
  omega
 ·have:=b2 root.1 (List.mem_map.2 ⟨root,List.mem_cons_self ..,rfl⟩)
  omega
theorem refs_more (root:Rf) (L:List Om) (v:Value) (n:Int):refsL root (moreL L v n)=refsL root L:=by
 have:moreL L v n=(L++[pgM v n])++[pgM v (n+1)]:=by unfold moreL; simp
 rw [this,refsL_snoc,refsL_snoc]
 show (refsL root L++refsN pgT)++refsN pgT=_
 rw [pg_refs,List.append_nil,List.append_nil]
theorem most_more {root:Rf} {L:List Om} {n:Int} (h:n=mostN root L+1) (v:Value):mostN root (moreL L v n)=n+1:=by
 unfold mostN at h ⊢
 rw [refs_more]
 unfold moreL
 rw [List.map_append]
 show List.foldl max _ (L.map (·.num)++[n,n+1])=n+1
 rw [List.foldl_append]
 have h2:List.foldl max (maxN ((refsL root L).map (·.1)) 0) (L.map (·.num))=n - 1:=by
  have:maxN (L.map (·.num)) (maxN ((refsL root L).map (·.1)) 0)=List.foldl max (maxN ((refsL root L).map (·.1)) 0) (L.map (·.num)):=rfl
  omega
 rw [h2]
 show max (max (n - 1) n) (n+1)=n+1
 omega
theorem put_pg (v:Value) {n:Int} (h1:1≤n) (h2:n≤8388607):putN (pgM v n)=0:=by
 unfold putN
 rw [if_neg (by show ¬ (n<1∨n>8388607∨(0:Int)<0∨(0:Int)>65535); omega),if_neg (by show ¬ checkN pgT≠0; rw [pg_check]; simp),if_neg (by simp [pgM]),if_neg (by show ¬ (0:Nat)>1048576; omega)]
theorem bad_pg (v:Value) {n:Int} {p:Option Int} (h1:1≤n) (h2:n≤8388607) (hp:∀ q,p=some q→q<n):badS p (pgM v n)=false:=by
 unfold badS hidN
 rw [put_pg v h1 h2]
 cases p with
 | none=>rfl
 | some q=>
  have:=hp q rfl
  show (decide (n≤q)||((0:Int) != 0)||(false&&_))=false
  rw [decide_eq_false (by omega)]
  rfl
theorem strictF_more {v:Value} {n:Int} (h1:1≤n) (h2:n≤131072):∀ (L:List Om) (p:Option Int),strictF p L=true→(∀ x∈L,x.num<n)→(∀ q,p=some q→q<n)→strictF p (moreL L v n)=true
 | [],p,_,_,hp=>by
  show strictF p [pgM v n,pgM v (n+1)]=true
  rw [strictF,strictF,strictF,bad_pg v h1 (by omega) hp,bad_pg v (n:=n+1) (by omega) (by omega) (fun q hq=>by
   have:n=q:=Option.some.inj hq
   omega)]
  rfl
 | x::r,p,h,hn,hp=>by
  rw [strictF,Bool.and_eq_true] at h
  show strictF p (x::moreL r v n)=true
  rw [strictF,h.1,strictF_more h1 h2 r _ h.2 (fun y hy=>hn y (List.mem_cons_of_mem _ hy)) (fun q hq=>by
   have:x.num=q:=Option.some.inj hq
   have:=hn x (List.mem_cons_self ..)
   omega)]
  rfl
theorem GrOk.more {root:Rf} {L:List Om} {n:Int} (h:GrOk root L n) (v:Value):strictN (moreL L v n)=0:=by
 obtain⟨h1,-,-,h2⟩:=h.nums
 have hs:=h.strict
 unfold strictN at hs ⊢
 split at hs
 ·rename_i h3
  rw [if_pos (strictF_more h2 h.top L none h3 h1 (fun q hq=>by cases hq))]
 ·cases hs
theorem pg_wf (v:Value) {n:Int} (h1:1≤n) (h2:n≤131073):OmWf (pgM v n):=⟨⟨by show -9223372036854775808≤n; omega,by show n≤9223372036854775807; omega⟩,⟨by show (-9223372036854775808:Int)≤0; omega,by show (0:Int)≤9223372036854775807; omega⟩,pg_lt⟩
theorem GrOk.asks {root:Rf} {L:List Om} {n:Int} (h:GrOk root L n) (v:Value):(∀ x∈moreL L v n,OmWf x)∧(∀ x∈moreL L v n,cntE x.tree≤60)∧(moreL L v n).length≤22:=by
 obtain⟨-,-,-,h2⟩:=h.nums
 have ht:=h.top
 refine⟨fun x hx=>?_,fun x hx=>?_,?_⟩
 ·rcases List.mem_append.1 hx with hx | hx
  ·exact h.wf x hx
  ·simp only [List.mem_cons,List.not_mem_nil,or_false] at hx
   rcases hx with rfl | rfl
   ·exact pg_wf v h2 (by omega)
   ·exact pg_wf v (by omega) (by omega)
 ·rcases List.mem_append.1 hx with hx | hx
  ·exact light_cnt (h.light x hx)
  ·have:=pg_cnt
   simp only [List.mem_cons,List.not_mem_nil,or_false] at hx
   rcases hx with rfl | rfl
   ·show cntE pgT≤60; omega
   ·show cntE pgT≤60; omega
 ·have:=h.len
  unfold moreL
  rw [List.length_append]
  show L.length+2≤22
  omega
theorem ord_mem {n:Int} {turned:Bool} {r:Rf} (h:r∈ordL n turned):r=(n,0)∨r=(n+1,0):=by
 cases turned with
 | true=>simp [ordL] at h; exact h.symm
 | false=>simp [ordL] at h; exact h
theorem GrOk.pages {root:Rf} {L:List Om} {n:Int} (h:GrOk root L n) (v:Value) (turned:Bool):∀ y∈listM root (moreL L v n) (ordL n turned),LOk L n y:=fun y hy=>by
 obtain⟨h1,h2,h3,h4⟩:=h.nums
 have ht:=h.top
 unfold listM at hy
 rw [loneM_more h1 h2 h3 h.lone,walkN_more h2 h3] at hy
 rcases List.mem_append.1 hy with hy | hy
 ·obtain⟨x,G,hx,hp,hG,rfl⟩:=(walkN_wk root L h.small y hy).of
  obtain⟨p1,p2⟩:=page_of hp
  have hd:=light_dk (type_dict p2) (h.light x hx) (h.wf x hx).lt
  obtain⟨d1,d2⟩:=page_dk hd hG
  exact⟨d1,of_page p1 ((type_get (d2 kType not4)).trans p2),.inl ⟨x,hx,hp,rfl⟩,(h.puts x hx).1,(h.wf x hx).num,(h.wf x hx).gen,d1.lt⟩
 ·obtain⟨r,hr,rfl⟩:=List.mem_map.1 hy
  have key:∀ m:Int,(m=n∨m=n+1)→findO (moreL L v n) (m,0)=some (pgM v m)→LOk L n (bare (objOr (moreL L v n) (m,0))):=fun m hm hf=>by
   have e:objOr (moreL L v n) (m,0)=pgM v m:=by unfold objOr; rw [hf]; rfl
   rw [e]
   have hw:OmWf (pgM v m):=pg_wf v (by omega) (by omega)
   exact⟨page_dk0.more (by omega),pg_page (.slice none 0 0) m,.inr hm,⟨⟨by show 1≤m; omega,by show m≤8388607; omega⟩,by show (0:Int)≤0; omega,by show (0:Int)≤65535; omega⟩,hw.num,hw.gen,hw.lt⟩
  rcases ord_mem hr with rfl | rfl
  ·exact key n (.inl rfl) (find_a h1)
  ·exact key (n+1) (.inr rfl) (find_b h1)
theorem notes_is {n:Int} {turned:Bool} {NT:List Rf} (hp:NT.Perm ((ordL n turned).map (fun r=>((5:Int),r.1))++[]++[(3,n+2),(4,n+2)])) (hr:NT.Pairwise fun x y=>x.1<y.1∨(x.1=y.1∧x.2<y.2)):NT=[(3,n+2),(4,n+2),(5,n),(5,n+1)]:=by
 refine rises_eq (fun x y:Rf=>x.1<y.1∨(x.1=y.1∧x.2<y.2)) (fun a b h1 h2=>by omega) hr ?_ (hp.trans ?_)
 ·simp
  omega
 ·rw [List.append_nil]
  refine List.perm_append_comm.trans ?_
  cases turned with
  | true=>exact .cons _ (.cons _ (.swap _ _ _))
  | false=>exact .refl _
theorem GrOk.mend {root:Rf} {L:List Om} {n:Int} (h:GrOk root L n) {v:Value} {turned:Bool} {ML:List Om} {r:Rf} {NT:List Rf} (hM:MendIs root (moreL L v n) (ordL n turned) ML r NT) :
  r=root∧keysO (walkN root ML)=keysO (walkN root L)++ordL n turned∧NT=[(3,n+2),(4,n+2),(5,n),(5,n+1)]∧(∀ x∈ML,OmWf x∧cntE x.tree≤900)∧ML.length≤1000:=by
 obtain⟨h1,h2,h3,h4⟩:=h.nums
 have ht:=h.top
 have hs:=h.more v
 have hlone:loneM root (moreL L v n) (ordL n turned)=ordL n turned:=loneM_more h1 h2 h3 h.lone
 have hsame:sameM root (moreL L v n) (ordL n turned)=false:=by
  unfold sameM
  rw [hs,hlone]
  cases turned <;> rfl
 rcases hM with ⟨hc,-⟩ | ⟨-,hM⟩
 ·rw [hsame] at hc; cases hc
 obtain⟨x0,hx0,hcat⟩:=h.root
 have hx0L:=findO_mem hx0
 have hx0' : findO (moreL L v n) root=some x0:=by rw [find_more h3,hx0]
 have hrb:rootB (moreL L v n) root=true:=by unfold rootB; rw [hx0']; exact hcat
 have hobj:objOr (moreL L v n) root=x0:=by unfold objOr; rw [hx0']; rfl
 have hrt:rtM root (moreL L v n)=bare x0:=by unfold rtM; rw [if_pos hrb,hobj]
 have hat:atM root (moreL L v n)=n+2:=by unfold atM; rw [if_pos hrb,most_more h.num]; omega
 have hroot:r=root:=by rw [hM.root,hrt]; exact hx0L.2.symm
 have hkeys:=listM_keys root (moreL L v n) (ordL n turned)
 rw [walkN_more h2 h3,hlone] at hkeys
 have hLL:=h.pages v turned
 have hq:=listM_ok root (moreL L v n) (ordL n turned)
 obtain⟨a1,a2,a3⟩:=h.asks v
 have hlen:(listM root (moreL L v n) (ordL n turned)).length≤22:=Nat.le_trans (listM_len _ _ _) a3
 obtain⟨LL,hLLe⟩:∃ LL,listM root (moreL L v n) (ordL n turned)=LL:=⟨_,rfl⟩
 have hmade:madeM root (moreL L v n) (ordL n turned)=LL.map (pgO (n+2,0))++[nodeO (n+2,0) LL,rootO (n+2,0) (bare x0)]:=by
  unfold madeM
  rw [hat,hrt,hLLe]
 rw [hLLe] at hkeys hLL hq hlen
 have htI:RefIn (n+2,0):=⟨⟨by show 1≤n+2; omega,by show n+2≤8388607; omega⟩,by show (0:Int)≤0; omega,by show (0:Int)≤65535; omega⟩
 have hrise:=strict_rise hs
 have hx0d:Dk x0.tree 60:=light_dk (type_dict (cat_of hcat).2) (h.light x0 hx0L.1) (h.wf x0 hx0L.1).lt
 obtain⟨rd,rc,rto⟩:=rootO_ok (t:=(n+2,0)) (x:=bare x0) hx0d hcat htI
 obtain⟨nd,np,nk⟩:=nodeO_ok (t:=(n+2,0)) (l:=LL) (fun y hy=>(hLL y hy).key) (by omega)
 -- no two of one number
 have hsm:∀ y∈LL,y.num≤n+1:=fun y hy=>by
  rcases (hLL y hy).src with ⟨x,hx,-,e⟩ | e | e
  ·have:=h1 x hx; omega
  ·omega
  ·omega
 have hne0:∀ y∈LL,y.num≠x0.num:=fun y hy e=>by
  have hx:=h1 x0 hx0L.1
  rcases (hLL y hy).src with ⟨x,hxL,hp,e2⟩ | e2 | e2
  ·have he:x=x0:=rise_inj (strict_rise h.strict) hxL hx0L.1 (by omega)
   rw [he] at hp
   exact absurd (type_one (page_of hp).2 (cat_of hcat).2) (by decide)
  ·omega
  ·omega
 have hapart:LL.Pairwise fun x y=>x.num≠y.num:=by
  have hnd:=hq.1
  unfold keysO at hnd
  refine (List.pairwise_map.1 hnd).imp_of_mem fun {x y} hx hy hxy e=>hxy ?_
  exact keys_nums hrise (hq.2 _ (List.mem_map_of_mem (f:=fun x:Om=>(x.num,x.gen)) hx)) (hq.2 _ (List.mem_map_of_mem (f:=fun x:Om=>(x.num,x.gen)) hy)) e
 have hMap:(LL.map (pgO (n+2,0))++[nodeO (n+2,0) LL,rootO (n+2,0) (bare x0)]).Pairwise fun x y=>x.num≠y.num:=by
  refine List.pairwise_append.2 ⟨List.pairwise_map.2 hapart,?_,fun x hx y hy=>?_⟩
  ·refine List.pairwise_cons.2 ⟨fun y hy=>?_,List.pairwise_singleton _ _⟩
   obtain rfl:=List.mem_singleton.1 hy
   show n+2≠x0.num
   have:=h1 x0 hx0L.1
   omega
  ·obtain⟨z,hz,rfl⟩:=List.mem_map.1 hx
   simp only [List.mem_cons,List.not_mem_nil,or_false] at hy
   rcases hy with rfl | rfl
   ·show z.num≠n+2
    have:=hsm z hz
    omega
   ·exact hne0 z hz
 have hobjs:=hM.objs
 rw [hmade,lasts_all hMap] at hobjs
 have hfind:=fun y hy=>find_made hM.rise hobjs (y:=y) (List.mem_append_right _ hy)
 refine⟨hroot,?_,?_,?_,?_⟩
 ·obtain⟨zr,zr1,zr2⟩:=hfind (rootO (n+2,0) (bare x0)) (by simp)
  obtain⟨zn,zn1,zn2⟩:=hfind (nodeO (n+2,0) LL) (by simp)
  obtain⟨-,r2,r3,-,-⟩:=bare_page zr2
  obtain⟨n1,-,n3,n4,-⟩:=bare_page zn2
  rw [show refO (rootO (n+2,0) (bare x0))=root from hx0L.2.symm] at zr1
  rw [←hkeys]
  refine (walkN_made (t:=(n+2,0)) (rs:=LL.map refO) zr1 (by rw [r2]; exact rc) (by rw [r3]; exact rto) zn1 (by rw [n1]; exact np) (by rw [n4]; rfl) (by rw [n3]; exact nk) (fun r hr=>?_) hq.1 (fun hm=>?_))
  ·obtain⟨y,hy,rfl⟩:=List.mem_map.1 hr
   obtain⟨z,z1,z2⟩:=hfind (pgO (n+2,0) y) (by simp; exact .inl ⟨y,hy,rfl⟩)
   exact⟨z,z1,(bare_page z2).1.trans (pgO_ok (hLL y hy).dk (hLL y hy).page htI).2⟩
  ·obtain⟨y,hy,e⟩:=List.mem_map.1 hm
   have:=hsm y hy
   have:y.num=n+2:=congrArg Prod.fst e
   omega
 ·have hN:=hM.notes
  unfold notesM at hN
  rw [hlone,hat,if_pos hrb] at hN
  exact notes_is hN hM.nrise
 ·intro x hx
  obtain⟨y,hy,he⟩:=List.mem_map.1 (hobjs.mem_iff.1 (List.mem_map_of_mem (f:=bare) hx))
  have e1:x.num=y.num:=(congrArg Om.num he:(bare y).num=(bare x).num).symm
  have e2:x.gen=y.gen:=(congrArg Om.gen he:(bare y).gen=(bare x).gen).symm
  have e3:x.tree=y.tree:=(congrArg Om.tree he:(bare y).tree=(bare x).tree).symm
  have hy2:OmWf y∧cntE y.tree≤900:=by
   rcases List.mem_append.1 hy with hy | hy
   ·have hyL:=(List.mem_filter.1 hy).1
    exact⟨a1 y hyL,Nat.le_trans (a2 y hyL) (by omega)⟩
   ·rcases List.mem_append.1 hy with hy | hy
    ·obtain⟨z,hz,rfl⟩:=List.mem_map.1 hy
     have hk:=hLL z hz
     have hd:=(pgO_ok hk.dk hk.page htI).1
     exact⟨⟨hk.wf.num,hk.wf.gen,hd.lt⟩,Nat.le_trans hd.cnt (by omega)⟩
    ·simp only [List.mem_cons,List.not_mem_nil,or_false] at hy
     rcases hy with rfl | rfl
     ·exact⟨⟨⟨by show -9223372036854775808≤n+2; omega,by show n+2≤9223372036854775807; omega⟩,⟨by show (-9223372036854775808:Int)≤0; omega,by show (0:Int)≤9223372036854775807; omega⟩,nd.lt⟩,Nat.le_trans nd.cnt (by omega)⟩
     ·have hw:=h.wf x0 hx0L.1
      exact⟨⟨hw.num,hw.gen,rd.lt⟩,Nat.le_trans rd.cnt (by omega)⟩
  exact⟨⟨by rw [e1]; exact hy2.1.num,by rw [e2]; exact hy2.1.gen,by rw [e3]; exact hy2.1.lt⟩,by rw [e3]; exact hy2.2⟩
 ·have hl:=hobjs.length_eq
  rw [List.length_map,List.length_map,List.length_append,List.length_append,List.length_map] at hl
  have hk:(keepL (LL.map (pgO (n+2,0))++[nodeO (n+2,0) LL,rootO (n+2,0) (bare x0)]) (moreL L v n)).length≤(moreL L v n).length:=List.length_filter_le _ _
  have h9:[nodeO (n+2,0) LL,rootO (n+2,0) (bare x0)].length=2:=rfl
  omega
end Pg
end Go.Proofs.YtljachhmdogkdaaGreatDoor
