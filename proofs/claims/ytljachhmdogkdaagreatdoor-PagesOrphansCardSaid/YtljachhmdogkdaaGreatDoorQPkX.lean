/-
 Texts PkX, as far as the statement needs them.
-/
import Derived.Test.YtljachhmdogkdaaGreatDoorQPkU
import Derived.Test.YtljachhmdogkdaaGreatDoorQPkV
set_option maxRecDepth 100000
set_option maxHeartbeats 64000000
namespace Go.Proofs.YtljachhmdogkdaaGreatDoor
namespace Tr
open Go.RowKit
def closeT (l:List Nd):List Fm→List Fm
 | []=>[]
 | (a,k)::T=>if k<(kidsAt l a).length then (a,k)::T else closeT l T
theorem close_fst (l:List Nd) (i:Nat):∀ (T:List Fm) (E:List Int),(closeN l i T E).1=closeT l T
 | [],E=>rfl
 | (a,k)::T,E=>by
  rw [closeN,closeT]
  split
  ·rfl
  ·exact close_fst l i T _
theorem close_app (l:List Nd) (i:Nat) (U:List Fm):∀ (T:List Fm) (E:List Int),closeT l T=[]→∃ E2,closeN l i (T++U) E=closeN l i U E2∧E2.length=E.length∧(∀ a,(∃ k,(a,k)∈T)→a<E.length→E2.getD a 0=(i:Int)+1)∧∀ a,(∀ k,(a,k)∉T)→E2.getD a 0=E.getD a 0
 | [],E,_=>⟨E,rfl,rfl,fun a h _=>(by obtain⟨k,h⟩:=h; cases h),fun a _=>rfl⟩
 | (b,k)::T,E,h=>by
  rw [closeT] at h
  split at h
  ·cases h
  ·rename_i hk
   obtain⟨E2,h1,h2,h3,h4⟩:=close_app l i U T (E.set b ((i:Int)+1)) h
   refine⟨E2,by rw [List.cons_append,closeN,if_neg hk]; exact h1,by rw [h2,List.length_set],fun a hx ha=>?_,fun a hm=>?_⟩
   ·obtain⟨k2,hm⟩:=hx
    by_cases hin:∃ k3,(a,k3)∈T
    ·exact h3 a hin (by rw [List.length_set]; exact ha)
    ·rcases List.mem_cons.1 hm with e | hm
     ·injection e with e1 e2
      subst e1
      rw [h4 a (fun k3 h5=>hin ⟨k3,h5⟩),List.getD_eq_getElem?_getD,List.getElem?_set_self ha]
      rfl
     ·exact absurd ⟨k2,hm⟩ hin
   ·have hne:a≠b:=fun e=>hm k (by rw [e]; simp)
    rw [h4 a (fun k3 h5=>hm k3 (List.mem_cons_of_mem _ h5)),List.getD_eq_getElem?_getD,List.getElem?_set_ne (Ne.symm hne),←List.getD_eq_getElem?_getD]
theorem close_stop (l:List Nd) (i:Nat) (U:List Fm):∀ (T:List Fm) (E:List Int),closeT l T≠[]→∃ E2,closeN l i (T++U) E=(closeT l T++U,E2)∧E2.length=E.length
 | [],E,h=>absurd rfl h
 | (b,k)::T,E,h=>by
  rw [closeT] at h
  split at h
  ·rename_i hk
   exact⟨E,by rw [List.cons_append,closeN,if_pos hk,closeT,if_pos hk]; rfl,rfl⟩
  ·rename_i hk
   obtain⟨E2,h1,h2⟩:=close_stop l i U T (E.set b ((i:Int)+1)) h
   exact⟨E2,by rw [List.cons_append,closeN,if_neg hk,closeT,if_neg hk]; exact h1,by rw [h2,List.length_set]⟩
inductive Runs (l:List Nd) (u M:Nat):Nat→List Fm→Nat→Prop
 | last {i:Nat} {T X:List Fm}:T≠[]→comeN l i T=some X→closeT l ((i,0)::X)=[]→X.length+u+1≤M→Runs l u M i T i
 | more {i j:Nat} {T X:List Fm}:T≠[]→comeN l i T=some X→closeT l ((i,0)::X)≠[]→X.length+u+1≤M→Runs l u M (i+1) (closeT l ((i,0)::X)) j→Runs l u M i T j
theorem come_app {l:List Nd} {i:Nat} {T U X:List Fm} (hT:T≠[]) (h:comeN l i (T++U)=some X):∃ Y,comeN l i T=some Y∧X=Y++U∧Y≠[]∧∀ a,(∃ k,(a,k)∈Y)↔∃ k,(a,k)∈T:=by
 obtain _ | ⟨⟨a,k⟩,T⟩:=T
 ·exact absurd rfl hT
 rw [List.cons_append,comeN] at h
 rw [comeN]
 split at h
 ·split at h
  ·rename_i h0 h1
   rw [if_pos h0,if_pos h1]
   refine⟨_,rfl,by simpa using h.symm,by simp,fun b=>⟨fun⟨k2,h2⟩=>?_,fun⟨k2,h2⟩=>?_⟩⟩
   ·rcases List.mem_cons.1 h2 with e | h2
    ·injection e with e1 _; exact⟨k,by rw [e1]; simp⟩
    ·exact⟨k2,List.mem_cons_of_mem _ h2⟩
   ·rcases List.mem_cons.1 h2 with e | h2
    ·injection e with e1 _; exact⟨k+1,by rw [e1]; simp⟩
    ·exact⟨k2,List.mem_cons_of_mem _ h2⟩
  ·cases h
 ·rename_i h0
  rw [if_neg h0]
  exact⟨_,rfl,by simpa using h.symm,by simp,fun b=>Iff.rfl⟩
theorem closeT_sub (l:List Nd):∀ (T:List Fm) (p:Fm),p∈closeT l T→p∈T
 | [],p,h=>h
 | (a,k)::T,p,h=>by
  rw [closeT] at h
  split at h
  ·exact h
  ·exact List.mem_cons_of_mem _ (closeT_sub l T p h)
theorem walk_keepD {l:List Nd}:∀ (g i:Nat) (T:List Fm) (E D:List Int) {T2:List Fm} {E2 D2:List Int},walkN l g i T E D=some (T2,E2,D2)→∀ a,a<i→D2.getD a 0=D.getD a 0
 | 0,i,T,E,D,T2,E2,D2,h,a,ha=>by
  unfold walkN at h
  injection h with h
  injection h with h1 h2
  injection h2 with h2 h3
  rw [←h3]
 | g+1,i,T,E,D,T2,E2,D2,h,a,ha=>by
  unfold walkN at h
  split at h
  ·cases h
  ·rw [walk_keepD g (i+1) _ _ _ h a (by omega),List.getD_eq_getElem?_getD,List.getElem?_set_ne (by omega),←List.getD_eq_getElem?_getD]
theorem close_keep (l:List Nd) (i:Nat):∀ (T:List Fm) (E:List Int) (a:Nat),(∀ k,(a,k)∉T)→(closeN l i T E).2.getD a 0=E.getD a 0
 | [],E,a,_=>rfl
 | (b,k)::T,E,a,h=>by
  rw [closeN]
  split
  ·rfl
  ·have hne:a≠b:=fun e=>h k (by rw [e]; simp)
   rw [close_keep l i T _ a (fun k2 h2=>h k2 (List.mem_cons_of_mem _ h2)),List.getD_eq_getElem?_getD,List.getElem?_set_ne (Ne.symm hne),←List.getD_eq_getElem?_getD]
theorem walk_keepE {l:List Nd}:∀ (g i:Nat) (T:List Fm) (E D:List Int) {T2:List Fm} {E2 D2:List Int},walkN l g i T E D=some (T2,E2,D2)→∀ a,a<i→(∀ k,(a,k)∉T)→E2.getD a 0=E.getD a 0
 | 0,i,T,E,D,T2,E2,D2,h,a,ha,hT=>by
  unfold walkN at h
  injection h with h
  injection h with h1 h2
  injection h2 with h2 h3
  rw [←h2]
 | g+1,i,T,E,D,T2,E2,D2,h,a,ha,hT=>by
  unfold walkN at h
  split at h
  ·cases h
  ·rename_i U hc
   have hU:∀ k,(a,k)∉(i,0)::U:=fun k hk=>by
    rcases List.mem_cons.1 hk with e | hk
    ·injection e with e1 _; omega
    ·obtain _ | ⟨q,T⟩:=T
     ·rw [comeN] at hc
      split at hc
      ·cases hc
      ·injection hc with hc; rw [←hc] at hk; cases hk
     ·obtain⟨Y,h1,h2,-,h4⟩:=come_app (T:=q::T) (U:=[]) (by simp) (by rw [List.append_nil]; exact hc)
      rw [List.append_nil] at h2
      subst h2
      obtain⟨k2,hk2⟩:=(h4 a).1 ⟨k,hk⟩
      exact hT k2 hk2
   rw [walk_keepE g (i+1) _ _ _ h a (by omega) (fun k hk=>hU k (by rw [close_fst] at hk; exact closeT_sub l _ _ hk)),close_keep l i _ _ a hU]
def bot (T:List Fm) (p:Nat):Prop:=∃ T1 k,T=T1++[(p,k)]
theorem bot_mem {T:List Fm} {p:Nat} (h:bot T p):∃ k,(p,k)∈T:=by
 obtain⟨T1,k,rfl⟩:=h
 exact⟨k,by simp⟩
theorem bot_cons {T:List Fm} {p:Nat} {q:Fm} (h:bot T p):bot (q::T) p:=by
 obtain⟨T1,k,rfl⟩:=h
 exact⟨q::T1,k,rfl⟩
theorem bot_close (l:List Nd) {p:Nat}:∀ {T:List Fm},bot T p→closeT l T≠[]→bot (closeT l T) p
 | [],⟨T1,k,h⟩,_=>by simp at h
 | (a,k)::T,h,hc=>by
  rw [closeT] at hc ⊢
  split
  ·exact h
  ·rename_i hk
   rw [if_neg hk] at hc
   obtain⟨T1,k2,h1⟩:=h
   obtain _ | ⟨q,T1⟩:=T1
   ·simp at h1
    rw [h1.2] at hc
    exact absurd rfl hc
   ·simp at h1
    exact bot_close l ⟨T1,k2,h1.2⟩ hc
theorem bot_come {l:List Nd} {i:Nat} {T Y:List Fm} {p:Nat} (h:bot T p) (hc:comeN l i T=some Y):bot Y p:=by
 obtain⟨T1,k,rfl⟩:=h
 obtain _ | ⟨⟨a,m⟩,T1⟩:=T1
 ·rw [List.nil_append,comeN] at hc
  split at hc
  ·split at hc
   ·injection hc with hc; exact⟨[],k+1,by rw [←hc]; rfl⟩
   ·cases hc
  ·injection hc with hc; exact⟨[],k,by rw [←hc]; rfl⟩
 ·rw [List.cons_append,comeN] at hc
  split at hc
  ·split at hc
   ·injection hc with hc; exact⟨(a,m+1)::T1,k,by rw [←hc]; rfl⟩
   ·cases hc
  ·injection hc with hc; exact⟨(a,m)::T1,k,by rw [←hc]; rfl⟩
theorem walk_lens {l:List Nd}:∀ (g i:Nat) (T:List Fm) (E D:List Int) {T2:List Fm} {E2 D2:List Int},walkN l g i T E D=some (T2,E2,D2)→E2.length=E.length∧D2.length=D.length
 | 0,i,T,E,D,T2,E2,D2,h=>by
  unfold walkN at h
  injection h with h
  injection h with h1 h2
  injection h2 with h2 h3
  rw [←h2,←h3]
  exact⟨rfl,rfl⟩
 | g+1,i,T,E,D,T2,E2,D2,h=>by
  unfold walkN at h
  split at h
  ·cases h
  ·obtain⟨h1,h2⟩:=walk_lens g (i+1) _ _ _ h
   rw [(close_len l i _ E).2.1] at h1
   rw [List.length_set] at h2
   exact⟨h1,h2⟩
theorem runs_ex {l:List Nd} {U:List Fm} {M:Nat} {n p:Nat} {E2 D2:List Int} (hM:∀ x∈D2,x≤(M:Int)):∀ (g i:Nat) (T:List Fm) (E D:List Int),g+i=n→bot T p→p<n→E.length=n→D.length=n→walkN l g i (T++U) E D=some ([],E2,D2)→
  ∃ (j g' : Nat) (E' D' : List Int),g' + (j+1)=n∧i≤j∧Runs l U.length M i T j∧walkN l g' (j+1) (closeN l j U E').1 (closeN l j U E').2 D' = some ([],E2,D2)∧E'.getD p 0=(j:Int)+1∧E'.length=n∧D'.length=n
 | 0,i,T,E,D,_,hb,_,_,_,hw=>by
  unfold walkN at hw
  injection hw with hw
  injection hw with h1 _
  obtain⟨T1,k,rfl⟩:=hb
  simp at h1
 | g+1,i,T,E,D,hg,hb,hp,hE,hD,hw=>by
  have hT:T≠[]:=by obtain⟨T1,k,rfl⟩:=hb; simp
  have hw0:=hw
  unfold walkN at hw
  split at hw
  ·cases hw
  ·rename_i X hc
   obtain⟨Y,h1,rfl,h3,h4⟩:=come_app hT hc
   have hk:=walk_keepD g (i+1) _ _ _ hw i (by omega)
   rw [List.getD_eq_getElem?_getD,List.getD_eq_getElem?_getD,List.getElem?_set_self (by omega)] at hk
   have hl2:=(walk_lens _ _ _ _ _ hw).2
   rw [List.length_set] at hl2
   have hid:i<D2.length:=by omega
   rw [List.getElem?_eq_getElem hid] at hk
   simp only [Option.getD_some,List.length_append] at hk
   have hm:=hM _ (List.getElem_mem hid)
   rw [hk] at hm
   have hdep:Y.length+U.length+1≤M:=by omega
   have hbY:=bot_come hb h1
   by_cases hcl:closeT l ((i,0)::Y)=[]
   ·obtain⟨E3,c1,c2,c3,-⟩:=close_app l i U ((i,0)::Y) E hcl
    rw [List.cons_append] at c1
    rw [c1] at hw
    refine⟨i,g,E3,_,by omega,Nat.le_refl _,Runs.last hT h1 hcl hdep,hw,?_,by rw [c2,hE],by rw [List.length_set,hD]⟩
    obtain⟨k2,hk2⟩:=bot_mem hbY
    exact c3 p ⟨k2,List.mem_cons_of_mem _ hk2⟩ (by omega)
   ·obtain⟨E3,c1,c2⟩:=close_stop l i U ((i,0)::Y) E hcl
    rw [List.cons_append] at c1
    rw [c1] at hw
    obtain⟨j,g',E',D',r1,r2,r3,r4,r5,r6,r7⟩:=runs_ex hM g (i+1) _ _ _ (by omega) (bot_close l (bot_cons hbY) hcl) hp (by rw [c2,hE]) (by rw [List.length_set,hD]) hw
    exact⟨j,g',E',D',r1,by omega,Runs.more hT h1 hcl hdep r3,r4,r5,r6,r7⟩
def cutN (l:List Nd) (p e:Nat):List Nd:=((l.take e).drop p).map (moveN (-(p:Int)))
theorem cut_len {l:List Nd} {p e:Nat} (he:e≤l.length):(cutN l p e).length=e - p:=by rw [cutN,List.length_map,List.length_drop,List.length_take]; omega
theorem cut_kids {l:List Nd} {p e a:Nat} (he:e≤l.length) (h1:p≤a) (h2:a<e):kidsAt (cutN l p e) (a - p)=(kidsAt l a).map (· + -(p:Int)):=by
 have hal:a<l.length:=by omega
 have hc:(cutN l p e)[a - p]? = some (moveN (-(p:Int)) (l[a]'hal)):=by
  rw [cutN,List.getElem?_map,List.getElem?_drop,List.getElem?_take,if_pos (by omega),show p+(a - p)=a by omega,List.getElem?_eq_getElem hal]
  rfl
 rw [kidsAt,hc,kidsAt,List.getElem?_eq_getElem hal]
 rfl
def uns (p:Nat) (q:Fm):Fm:=(q.1 - p,q.2)
theorem closeT_cut {l:List Nd} {p e:Nat} (he:e≤l.length):∀ (T:List Fm),(∀ q∈T,p≤q.1∧q.1<e)→closeT (cutN l p e) (T.map (uns p))=(closeT l T).map (uns p)
 | [],_=>rfl
 | (a,k)::T,h=>by
  have ha:=h (a,k) (by simp)
  rw [List.map_cons,show uns p (a,k)=(a - p,k) from rfl,closeT,closeT,cut_kids he ha.1 ha.2,List.length_map]
  split
  ·rfl
  ·exact closeT_cut he T (fun q hq=>h q (by simp [hq]))
theorem come_cut {l:List Nd} {p e i:Nat} {T X:List Fm} (he:e≤l.length) (hi:p<i) (hT:T≠[]) (h:∀ q∈T,p≤q.1∧q.1<e) (hc:comeN l i T=some X):comeN (cutN l p e) (i - p) (T.map (uns p))=some (X.map (uns p)):=by
 obtain _ | ⟨⟨a,k⟩,T⟩:=T
 ·exact absurd rfl hT
 have ha:=h (a,k) (by simp)
 rw [comeN,if_pos (by omega)] at hc
 split at hc
 ·rename_i hk
  injection hc with hc
  rw [List.map_cons,show uns p (a,k)=(a - p,k) from rfl,comeN,if_pos (by omega),cut_kids he ha.1 ha.2,List.getElem?_map,hk,if_pos (by simp; omega),←hc]
  rfl
 ·cases hc
theorem come_in {l:List Nd} {i e p:Nat} {T X:List Fm} (h:∀ q∈T,p≤q.1∧q.1<e) (hT:T≠[]) (hc:comeN l i T=some X):∀ q∈X,p≤q.1∧q.1<e:=fun q hq=>by
 obtain⟨Y,h1,h2,-,h4⟩:=come_app (U:=[]) hT (by rw [List.append_nil]; exact hc)
 rw [List.append_nil] at h2
 subst h2
 obtain⟨k,hk⟩:=(h4 q.1).1 ⟨q.2,hq⟩
 have:=h (q.1,k) hk
 exact this
theorem runs_le {l:List Nd} {u M i j:Nat} {T:List Fm} (h:Runs l u M i T j):i≤j:=by
 induction h with
 | last _ _ _ _=>exact Nat.le_refl _
 | more _ _ _ _ _ ih=>omega
theorem runs_cut {l:List Nd} {u M p i j:Nat} {T:List Fm} (h:Runs l u M i T j) (hj:j<l.length) (hp:p<i) (hT:∀ q∈T,p≤q.1∧q.1<i):∀ (E' D' : List Int),(∀ x∈D',x≤(M:Int))→
  ∃ E3 D3,walkN (cutN l p (j+1)) (j+1 - i) (i - p) (T.map (uns p)) E' D' = some ([],E3,D3)∧∀ x∈D3,x≤(M:Int):=by
 induction h with
 | @last i T X h1 h2 h3 h4=>
  intro E' D' hD
  have hT9:∀ q∈T,p≤q.1∧q.1<i+1:=fun q hq=>⟨(hT q hq).1,by have:=(hT q hq).2; omega⟩
  have hX:=come_in hT9 h1 h2
  have hc:=closeT_cut (l:=l) (p:=p) (e:=i+1) (by omega) ((i,0)::X) (fun q hq=>by
   rcases List.mem_cons.1 hq with rfl | hq
   ·exact⟨by show p≤i; omega,by show i<i+1; omega⟩
   ·exact hX q hq)
  rw [h3] at hc
  rw [show i+1 - i=1 by omega,walkN,come_cut (by omega) hp h1 hT9 h2]
  simp only [walkN]
  refine⟨_,_,by rw [close_fst,show (i - p,0)::X.map (uns p)=((i,0)::X).map (uns p) from rfl,hc]; rfl,fun x hx=>?_⟩
  rcases List.mem_or_eq_of_mem_set hx with hx | rfl
  ·exact hD x hx
  ·rw [List.length_map]; omega
 | @more i j T X h1 h2 h3 h4 h5 ih=>
  intro E' D' hD
  have hij:=runs_le h5
  have hT9:∀ q∈T,p≤q.1∧q.1<j+1:=fun q hq=>⟨(hT q hq).1,by have:=(hT q hq).2; omega⟩
  have hT8:∀ q∈T,p≤q.1∧q.1<i+1:=fun q hq=>⟨(hT q hq).1,by have:=(hT q hq).2; omega⟩
  have hX:=come_in hT9 h1 h2
  have hX8:=come_in hT8 h1 h2
  have hc:=closeT_cut (l:=l) (p:=p) (e:=j+1) (by omega) ((i,0)::X) (fun q hq=>by
   rcases List.mem_cons.1 hq with rfl | hq
   ·exact⟨by show p≤i; omega,by show i<j+1; omega⟩
   ·exact hX q hq)
  obtain⟨E3,D3,r1,r2⟩:=ih hj (by omega) (fun q hq=>by
   rcases List.mem_cons.1 (closeT_sub l _ q hq) with rfl | hq
   ·exact⟨by show p≤i; omega,by show i<i+1; omega⟩
   ·exact hX8 q hq) (closeN (cutN l p (j+1)) (i - p) ((i - p,0)::X.map (uns p)) E').2 (D'.set (i - p) (((X.map (uns p)).length:Int)+1)) (fun x hx=>by
   rcases List.mem_or_eq_of_mem_set hx with hx | rfl
   ·exact hD x hx
   ·rw [List.length_map]; omega)
  refine⟨E3,D3,?_,r2⟩
  rw [show j+1 - i=(j+1 - (i+1))+1 by omega,walkN,come_cut (by omega) hp h1 hT9 h2]
  simp only []
  rw [close_fst,show (i - p,0)::X.map (uns p)=((i,0)::X).map (uns p) from rfl,hc,show i - p+1=i+1 - p by omega]
  exact r1
theorem come_lt {l:List Nd} {i b:Nat} {T U:List Fm} (h:∀ q∈T,q.1<b) (hc:comeN l i T=some U):∀ q∈U,q.1<b:=fun q hq=>by
 obtain _ | ⟨q0,T⟩:=T
 ·rw [comeN] at hc
  split at hc
  ·cases hc
  ·injection hc with hc; rw [←hc] at hq; cases hq
 ·obtain⟨Y,h1,h2,-,h4⟩:=come_app (T:=q0::T) (U:=[]) (by simp) (by rw [List.append_nil]; exact hc)
  rw [List.append_nil] at h2
  subst h2
  obtain⟨k2,hk2⟩:=(h4 q.1).1 ⟨q.2,hq⟩
  have:=h _ hk2
  exact this
theorem not_in {T:List Fm} {p:Nat} (h:∀ q∈T,q.1<p):∀ k,(p,k)∉T:=fun _ hk=>Nat.lt_irrefl _ (h _ hk)
theorem walk_at {l:List Nd} {X:List Fm×List Int×List Int}:∀ (p g i:Nat) (T:List Fm) (E D:List Int),walkN l (g+p) i T E D=some X→(∀ q∈T,q.1<i)→∃ T2 E2 D2,walkN l g (i+p) T2 E2 D2=some X∧(∀ q∈T2,q.1<i+p)∧E2.length=E.length∧D2.length=D.length
 | 0,g,i,T,E,D,h,hT=>⟨T,E,D,h,hT,rfl,rfl⟩
 | p+1,g,i,T,E,D,h,hT=>by
  rw [show g+(p+1)=(g+p)+1 by omega,walkN] at h
  split at h
  ·cases h
  ·rename_i U hc
   have hU:=come_lt (b:=i) hT hc
   obtain⟨T2,E2,D2,r1,r2,r3,r4⟩:=walk_at p g (i+1) _ _ _ h (fun q hq=>by
    rw [close_fst] at hq
    rcases List.mem_cons.1 (closeT_sub l _ q hq) with rfl | hq
    ·exact Nat.lt_succ_self _
    ·exact Nat.lt_succ_of_lt (hU q hq))
   rw [show i+1+p=i+(p+1) by omega] at r1 r2
   rw [(close_len l i _ E).2.1] at r3
   rw [List.length_set] at r4
   exact⟨T2,E2,D2,r1,r2,r3,r4⟩
theorem value_at {l:List Nd} {M n g p:Nat} {T:List Fm} {E D E2 D2:List Int} (hM:∀ x∈D2,x≤(M:Int)) (hM1:1≤M) (hn:l.length=n) (hg:g+1+p=n) (hT:∀ q∈T,q.1<p) (hE:E.length=n) (hD:D.length=n) (hw:walkN l (g+1) p T E D=some ([],E2,D2)) :
  ∃ (U:List Fm) (j g' : Nat) (E' D' : List Int),comeN l p T=some U∧g' + (j+1)=n∧p≤j∧walkN l g' (j+1) (closeN l j U E').1 (closeN l j U E').2 D' = some ([],E2,D2)∧E2.getD p 0=(j:Int)+1∧E'.length=n∧D'.length=n∧(kidsAt l p=[]→j=p)∧
   ∃ E3 D3,shapeN (cutN l p (j+1))=some (E3,D3)∧∀ x∈D3,x≤(M:Int):=by
 unfold walkN at hw
 split at hw
 ·cases hw
 rename_i U hc
 have hU:=come_lt (b:=p) hT hc
 have hz:∀ k x,x∈zers k→x≤(M:Int):=fun k x hx=>by rw [zers] at hx; have:=(List.mem_replicate.1 hx).2; omega
 have fin:∀ (j g' : Nat) (E' D' : List Int),p≤j→walkN l g' (j+1) (closeN l j U E').1 (closeN l j U E').2 D' = some ([],E2,D2)→E2.getD p 0=E'.getD p 0:=fun j g' E' D' hpj h=>by
  rw [walk_keepE _ _ _ _ _ h p (by omega) (fun k hk=>not_in hU k (by rw [close_fst] at hk; exact closeT_sub l U _ hk)),close_keep l j U E' p (not_in hU)]
 by_cases hleaf:closeT l [(p,0)]=[]
 ·obtain⟨E3,c1,c2,c3,-⟩:=close_app l p U [(p,0)] E hleaf
  rw [List.cons_append,List.nil_append] at c1
  rw [c1] at hw
  have hep:=c3 p ⟨0,by simp⟩ (by omega)
  have hcl:cutN l p (p+1)≠[]:=fun h=>by have:=cut_len (l:=l) (p:=p) (e:=p+1) (by omega); rw [h] at this; simp at this
  have hlen:(cutN l p (p+1)).length=1:=by rw [cut_len (by omega)]; omega
  have hk0:kidsAt (cutN l p (p+1)) 0=[]:=by
   have:=cut_kids (l:=l) (p:=p) (e:=p+1) (a:=p) (by omega) (Nat.le_refl _) (by omega)
   rw [Nat.sub_self] at this
   rw [this]
   rw [closeT] at hleaf
   split at hleaf
   ·cases hleaf
   ·rename_i h0
    rw [List.length_eq_zero_iff.1 (show (kidsAt l p).length=0 by omega)]; rfl
  refine⟨U,p,g,E3,_,hc,by omega,Nat.le_refl _,hw,by rw [fin p g E3 _ (Nat.le_refl _) hw]; exact hep,by rw [c2,hE],by rw [List.length_set,hD],fun _=>rfl,?_⟩
  rw [shapeN_is,hlen]
  have hw1:walkN (cutN l p (p+1)) 1 0 [] (zers 1) (zers 1)=some ([],[1],[1]):=by
   rw [walkN,comeN,if_neg (by omega)]
   simp only [walkN,closeN,hk0]
   rfl
  rw [hw1]
  exact⟨_,_,rfl,fun x hx=>by simp at hx; omega⟩
 ·have hleaf2:=hleaf
  rw [closeT] at hleaf
  split at hleaf
  case isFalse=>exact absurd rfl hleaf
  rename_i h0
  have hst:closeN l p ((p,0)::U) E=((p,0)::U,E):=by rw [closeN,if_pos h0]
  rw [hst] at hw
  obtain⟨j,g',E',D',r1,r2,r3,r4,r5,r6,r7⟩:=runs_ex (U:=U) (p:=p) hM g (p+1) [(p,0)] E _ (by omega) ⟨[],0,rfl⟩ (by omega) hE (by rw [List.length_set,hD]) hw
  obtain⟨E3,D3,q1,q2⟩:=runs_cut (p:=p) r3 (by omega) (by omega) (fun q hq=>by
   obtain rfl:q=(p,0):=by simpa using hq
   exact⟨Nat.le_refl _,by show p<p+1; omega⟩) (zers (j+1 - p)) ((zers (j+1 - p)).set 0 1) (fun x hx=>by
   rcases List.mem_or_eq_of_mem_set hx with hx | rfl
   ·exact hz _ x hx
   ·omega)
  refine⟨U,j,g',E',D',hc,r1,by omega,r4,by rw [fin j g' E' D' (by omega) r4]; exact r5,r6,r7,fun h=>by rw [h] at h0; simp at h0,?_⟩
  have hlen:(cutN l p (j+1)).length=j+1 - p:=cut_len (by omega)
  have hk0:0<(kidsAt (cutN l p (j+1)) 0).length:=by
   have:=cut_kids (l:=l) (p:=p) (e:=j+1) (a:=p) (by omega) (Nat.le_refl _) (by omega)
   rw [Nat.sub_self] at this
   rw [this,List.length_map]
   exact h0
  rw [shapeN_is,hlen]
  have hw1:walkN (cutN l p (j+1)) (j+1 - p) 0 [] (zers (j+1 - p)) (zers (j+1 - p))=some ([],E3,D3):=by
   rw [show j+1 - p=(j+1 - (p+1))+1 by omega,walkN,comeN,if_neg (by omega)]
   simp only []
   rw [closeN,if_pos hk0]
   simp only [List.length_nil]
   rw [show j+1 - (p+1)+1=j+1 - p by omega]
   rw [show p+1 - p=0+1 by omega,show [(p,0)].map (uns p)=[(0,0)] by simp [uns]] at q1
   exact q1
  rw [hw1,shapeR,if_pos (by omega)]
  exact⟨_,_,rfl,q2⟩
def chainP (E:List Int):List Int→Int→Int→Prop
 | [],next,e=>next=e
 | k::r,next,e=>k=next∧chainP E r (E.getD next.toNat 0) e
theorem chain_at {l:List Nd} {M n p:Nat} {U:List Fm} {E2 D2:List Int} (hM:∀ x∈D2,x≤(M:Int)) (hM1:1≤M) (hn:l.length=n) (hU:∀ q∈U,q.1<p):∀ (r t g i:Nat) (E D:List Int),t+(r+1)=(kidsAt l p).length→g+i=n→p<i→E.length=n→D.length=n→walkN l g i ((p,t)::U) E D=some ([],E2,D2)→
  chainP E2 ((kidsAt l p).drop t) i (E2.getD p 0)
 | r,t,0,i,E,D,_,_,_,_,_,hw=>by
  unfold walkN at hw
  injection hw with hw
  injection hw with h1 _
  cases h1
 | r,t,g+1,i,E,D,hr,hg,hpi,hE,hD,hw=>by
  obtain⟨X,j,g',E',D',v1,v2,v3,v4,v5,v6,v7,-⟩:=value_at hM hM1 hn hg (fun q hq=>by
   rcases List.mem_cons.1 hq with rfl | hq
   ·exact hpi
   ·have:=hU q hq; omega) hE hD hw
  rw [comeN,if_pos (by omega)] at v1
  split at v1
  case isFalse=>cases v1
  rename_i hk
  injection v1 with v1
  subst v1
  obtain⟨ht,hk2⟩:=List.getElem?_eq_some_iff.1 hk
  rw [drop_at _ t ht,chainP]
  refine⟨hk2,?_⟩
  rw [Int.toNat_natCast,v5]
  by_cases ht1:t+1<(kidsAt l p).length
  ·obtain⟨r,rfl⟩:∃ r',r=r' + 1:=⟨r - 1,by omega⟩
   have hst:closeN l j ((p,t+1)::U) E' = ((p,t+1)::U,E'):=by rw [closeN,if_pos ht1]
   rw [hst] at v4
   have:=chain_at hM hM1 hn hU r (t+1) g' (j+1) E' D' (by omega) v2 (by omega) v6 v7 v4
   rw [show ((j+1:Nat):Int)=(j:Int)+1 by omega] at this
   exact this
  ·rw [List.drop_eq_nil_of_le (by omega),chainP]
   have hst:closeN l j ((p,t+1)::U) E' = closeN l j U (E'.set p ((j:Int)+1)):=by rw [closeN,if_neg ht1]
   rw [hst] at v4
   rw [walk_keepE _ _ _ _ _ v4 p (by omega) (fun k hk=>not_in hU k (by rw [close_fst] at hk; exact closeT_sub l U _ hk)),close_keep l j U _ p (not_in hU),List.getD_eq_getElem?_getD,List.getElem?_set_self (by omega)]
   rfl
theorem foldl_max_ge:∀ (D:List Int) (a:Int),a≤D.foldl max a∧∀ x∈D,x≤D.foldl max a
 | [],a=>⟨Int.le_refl _,by simp⟩
 | y::D,a=>by
  obtain⟨h1,h2⟩:=foldl_max_ge D (max a y)
  rw [List.foldl_cons]
  refine⟨by omega,fun x hx=>?_⟩
  rcases List.mem_cons.1 hx with rfl | hx
  ·omega
  ·exact h2 x hx
theorem foldl_max_le:∀ (D:List Int) (a M:Int),a≤M→(∀ x∈D,x≤M)→D.foldl max a≤M
 | [],a,M,h,_=>h
 | y::D,a,M,h,hD=>by
  have:=hD y (by simp)
  rw [List.foldl_cons]
  exact foldl_max_le D _ M (by omega) (fun x hx=>hD x (by simp [hx]))
theorem le_maxOf {D:List Int} {x:Int} (h:x∈D):x≤Lib.maxOf D:=(foldl_max_ge D _).2 x h
theorem maxOf_le {D:List Int} {M:Int} (h0:D≠[]) (h:∀ x∈D,x≤M):Lib.maxOf D≤M:=by
 obtain _ | ⟨y,D⟩:=D
 ·exact absurd rfl h0
 ·exact foldl_max_le _ _ _ (h y (by simp)) h
theorem bare_move (b:Int) (x:Nd):bareN (moveN b x)=bareN x:=by
 unfold bareN moveN
 simp only [List.length_map]
theorem cut_nd {l:List Nd} {p e:Nat} {c:Int} (he:e≤l.length) (h0:0≤c) (h1:c<((cutN l p e).length:Int)):ndAt (cutN l p e) c=moveN (-(p:Int)) (ndAt l (c+p)):=by
 obtain⟨a,rfl⟩:∃ a:Nat,c=(a:Int):=⟨c.toNat,by omega⟩
 have hl:=cut_len (p:=p) he
 have ha:a<(cutN l p e).length:=by omega
 rw [ndAt,ndAt,Int.toNat_natCast,show ((a:Int)+(p:Int)).toNat=p+a by omega,List.getD_eq_getElem?_getD,List.getD_eq_getElem?_getD,cutN,List.getElem?_map,List.getElem?_drop,List.getElem?_take,if_pos (by omega),List.getElem?_eq_getElem (show p+a<l.length by omega)]
 rfl
theorem rises_cut {l:List Nd} {p e:Nat} (he:e≤l.length):∀ (pr:Option ByteArray) (L:List Int),(∀ k∈L,0≤k + -(p:Int)∧k + -(p:Int)<((cutN l p e).length:Int))→risesN (cutN l p e) pr (L.map (· + -(p:Int)))=risesN l pr L
 | _,[],_=>rfl
 | _,[_],_=>rfl
 | pr,k::m::r,h=>by
  have hk:=h k (by simp)
  have hn:ndAt (cutN l p e) (k + -(p:Int))=moveN (-(p:Int)) (ndAt l k):=by
   rw [cut_nd he hk.1 hk.2,show k + -(p:Int)+(p:Int)=k by omega]
  rw [List.map_cons,List.map_cons,risesN,risesN,hn,rises_cut he _ r (fun q hq=>h q (by simp [hq]))]
  rfl
structure CutsOk (l:List Nd) (p:Nat):Prop where
 sub:checkN (subN l p)=0
 fin:(endsN l).getD p 0=(p:Int)+(subN l p).length
 all:(endsN l).getD 0 0=l.length
 deep:depthN (subN l p)≤depthN l
 chain:chainP (endsN l) (kidsAt l p) ((p:Int)+1) ((endsN l).getD p 0)
theorem cuts_ok {l:List Nd} {p:Nat} (hc:checkN l=0) (hp:p<l.length):CutsOk l p:=by
 obtain⟨h0,hn9,E2,D2,hsh,hmx,hall⟩:=check_zero hc
 have hsh0:=hsh
 obtain⟨-,hE2,hD2,-,-⟩:=shape_some hsh
 have hends:endsN l=E2:=by rw [endsN,hsh]
 have hdeps:depsN l=D2:=by rw [depsN,hsh]
 obtain⟨n,hn⟩:∃ n,l.length=n:=⟨_,rfl⟩
 rw [hn] at hp h0 hn9 hE2 hD2
 -- the whole run
 have hw:walkN l n 0 [] (zers n) (zers n)=some ([],E2,D2):=by
  rw [shapeN_is,hn] at hsh
  unfold shapeR at hsh
  split at hsh
  ·rename_i E D hw
   rw [if_pos h0] at hsh
   injection hsh with hsh
   injection hsh with e1 e2
   rw [hw,e1,e2]
  ·cases hsh
 have hne:D2≠[]:=fun h=>by rw [h] at hD2; simp at hD2; omega
 have hpos:1≤Lib.maxOf D2:=by
  have h1:=walk_at (l:=l) 0 n 0 [] _ _ hw (by simp)
  obtain⟨g,hg⟩:∃ g,n=g+1:=⟨n - 1,by omega⟩
  rw [hg,walkN,comeN,if_neg (by omega)] at hw
  have hk:=walk_keepD _ _ _ _ _ hw 0 (by omega)
  rw [List.getD_eq_getElem?_getD,List.getD_eq_getElem?_getD,List.getElem?_set_self (by rw [zers_len]; omega),List.getElem?_eq_getElem (show 0<D2.length by omega)] at hk
  have:=le_maxOf (List.getElem_mem (show 0<D2.length by omega))
  simp only [Option.getD_some,List.length_nil] at hk
  rw [hk] at this
  omega
 obtain⟨M,hMM⟩:∃ M:Nat,Lib.maxOf D2=(M:Int):=⟨(Lib.maxOf D2).toNat,by omega⟩
 have hM:∀ x∈D2,x≤(M:Int):=fun x hx=>by rw [←hMM]; exact le_maxOf hx
 -- the whole is one value
 have hroot:E2.getD 0 0=(n:Int):=by
  obtain⟨g,hg⟩:∃ g,n=g+1:=⟨n - 1,by omega⟩
  have hw0:=hw
  rw [hg] at hw0
  obtain⟨U,j,g',E',D',v1,v2,v3,v4,v5,v6,v7,-⟩:=value_at (p:=0) hM (by omega) (hn.trans hg) (by omega) (by simp) (zers_len _) (zers_len _) hw0
  rw [comeN,if_neg (by omega)] at v1
  injection v1 with v1
  subst v1
  rw [v5]
  obtain _ | g':=g'
  ·omega
  ·rw [closeN] at v4
   unfold walkN at v4
   rw [comeN,if_pos (by omega)] at v4
   cases v4
 -- the value at p
 obtain⟨g,hg⟩:∃ g,n=g+1+p:=⟨n - 1 - p,by omega⟩
 have hw1:=hw
 rw [hg] at hw1
 obtain⟨T,E,D,w1,w2,w3,w4⟩:=walk_at p (g+1) 0 [] _ _ hw1 (by simp)
 rw [Nat.zero_add] at w1 w2
 rw [zers_len,←hg] at w3 w4
 obtain⟨U,j,g',E',D',v1,v2,v3,v4,v5,v6,v7,v8,E3,D3,v9,v10⟩:=value_at (p:=p) hM (by omega) hn (by omega) w2 w3 w4 w1
 have hjl:j+1≤l.length:=by omega
 have hsub:subN l p=cutN l p (j+1):=by
  rw [subN,hsh0]
  simp only
  rw [v5,show ((j:Int)+1).toNat=j+1 by omega]
  rfl
 have hsl:(cutN l p (j+1)).length=j+1 - p:=cut_len hjl
 obtain⟨s0,sE,sD,sK,-⟩:=shape_some v9
 have hD3:D3≠[]:=fun h=>by rw [h] at sD; simp at sD; omega
 have hmx3:Lib.maxOf D3≤(M:Int):=maxOf_le hD3 v10
 have hck:checkN (cutN l p (j+1))=0:=by
  have ha:(cutN l p (j+1)).all (nodeOk (cutN l p (j+1)))=true:=by
   rw [List.all_eq_true]
   intro y hy
   obtain⟨a,ha,hka⟩:=kidsAt_mem hy
   have hy2:=hy
   rw [cutN] at hy2
   obtain⟨x,hx,rfl⟩:=List.mem_map.1 hy2
   have hxl:x∈l:=List.mem_of_mem_take (List.mem_of_mem_drop hx)
   have hok:=List.all_eq_true.1 hall x hxl
   rw [nodeOk] at hok ⊢
   rw [bare_move]
   have hkr:∀ k∈x.kids,0≤k + -(p:Int)∧k + -(p:Int)<((cutN l p (j+1)).length:Int):=fun k hk=>by
    have hm:k + -(p:Int)∈(moveN (-(p:Int)) x).kids:=List.mem_map_of_mem (f:=(· + -(p:Int))) hk
    rw [←hka] at hm
    obtain⟨jj,hjj⟩:=List.getElem?_of_mem hm
    have:=sK a ha jj _ hjj
    omega
   have hr:risesN (cutN l p (j+1)) none (moveN (-(p:Int)) x).kids=risesN l none x.kids:=rises_cut hjl none x.kids hkr
   have hlen:(moveN (-(p:Int)) x).kids.length=x.kids.length:=List.length_map _
   rw [hr,hlen]
   exact hok
  unfold checkN
  rw [if_neg (by rw [hsl]; omega),v9]
  simp only
  rw [if_neg (by omega),if_pos ha]
 refine⟨by rw [hsub]; exact hck,by rw [hends,v5,hsub,hsl]; omega,by rw [hends,hroot,hn],?_,?_⟩
 ·rw [hsub,depthN,depthN,if_pos hck,if_pos hc,hdeps,hMM,depsN,v9]
  exact hmx3
 ·rw [hends]
  cases hkd:kidsAt l p with
  | nil=>
   rw [chainP,v5,v8 hkd]
  | cons k r=>
   have hlen:0<(kidsAt l p).length:=by rw [hkd]; simp
   have hU:=come_lt (b:=p) w2 v1
   have w5:=w1
   unfold walkN at w5
   rw [v1] at w5
   simp only at w5
   have hst:closeN l p ((p,0)::U) E=((p,0)::U,E):=by rw [closeN,if_pos hlen]
   rw [hst] at w5
   have:=chain_at hM (by omega) hn hU ((kidsAt l p).length - 1) 0 g (p+1) E _ (by omega) (by omega) (by omega) w3 (by rw [List.length_set,w4]) w5
   rw [List.drop_zero,hkd,show ((p+1:Nat):Int)=(p:Int)+1 by omega] at this
   exact this
end Tr
end Go.Proofs.YtljachhmdogkdaaGreatDoor
