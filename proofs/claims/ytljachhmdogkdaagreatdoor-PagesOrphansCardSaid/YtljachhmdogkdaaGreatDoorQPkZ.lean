/-
 Texts PkZ, as far as the statement needs them.
-/
import Derived.Test.YtljachhmdogkdaaGreatDoorQPkU
import Derived.Test.YtljachhmdogkdaaGreatDoorQPkW
import Derived.Test.YtljachhmdogkdaaGreatDoorQPkX
import Derived.Test.YtljachhmdogkdaaGreatDoorQPkY
set_option maxRecDepth 100000
set_option maxHeartbeats 64000000
namespace Go.Proofs.YtljachhmdogkdaaGreatDoor
namespace Tr
open Go.RowKit
def shF (p:Nat) (q:Fm):Fm:=(p+q.1,q.2)
def PutAt (l s:List Nd) (p:Nat):Prop:=∀ a,a<s.length→kidsAt l (p+a)=(kidsAt s a).map (· + (p:Int))
theorem closeT_put {l s:List Nd} {p:Nat} (h:PutAt l s p):∀ (T:List Fm),(∀ q∈T,q.1<s.length)→closeT l (T.map (shF p))=(closeT s T).map (shF p)
 | [],_=>rfl
 | (a,k)::T,hT=>by
  have ha:=hT (a,k) (by simp)
  rw [List.map_cons,show shF p (a,k)=(p+a,k) from rfl,closeT,closeT,h a ha,List.length_map]
  split
  ·rfl
  ·exact closeT_put h T (fun q hq=>hT q (by simp [hq]))
theorem come_put {l s:List Nd} {p i:Nat} {T X U:List Fm} (h:PutAt l s p) (hi:0<i) (hTs:∀ q∈T,q.1<s.length) (hc:comeN s i T=some X):comeN l (p+i) (T.map (shF p)++U)=some (X.map (shF p)++U):=by
 obtain _ | ⟨⟨a,k⟩,T⟩:=T
 ·rw [comeN,if_pos hi] at hc; cases hc
 have ha:=hTs (a,k) (by simp)
 rw [comeN,if_pos hi] at hc
 split at hc
 ·rename_i hk
  injection hc with hc
  rw [List.map_cons,List.cons_append,show shF p (a,k)=(p+a,k) from rfl,comeN,if_pos (by omega),h a ha,List.getElem?_map,hk,if_pos (by simp; omega),←hc]
  rfl
 ·cases hc
theorem put_run {l s:List Nd} {p:Nat} {U:List Fm} (h:PutAt l s p):∀ (g i:Nat) (T:List Fm) (E D E2 D2:List Int),g+1+i=s.length→0<i→(∀ q∈T,q.1<i)→walkN s (g+1) i T E D=some ([],E2,D2)→∀ (E' D' : List Int),p+s.length≤D'.length→D.length=s.length→
  ∃ Ex Dx,Ex.length=E'.length∧Dx.length=D'.length∧(∀ r,walkN l (g+1+r) (p+i) (T.map (shF p)++U) E' D' = walkN l r (p+s.length) (closeN l (p+s.length - 1) U Ex).1 (closeN l (p+s.length - 1) U Ex).2 Dx)∧
   (∀ a,i≤a→a<s.length→Dx.getD (p+a) 0=D2.getD a 0+U.length)∧(∀ a,(a<p+i∨p+s.length≤a)→Dx.getD a 0=D'.getD a 0):=by
 intro g
 induction g with
 | zero=>
  intro i T E D E2 D2 hg hi hT hw E' D' hD hDl
  unfold walkN at hw
  split at hw
  ·cases hw
  rename_i X hc
  have hX:=come_lt (b:=i) hT hc
  have hcl:closeT s ((i,0)::X)=[]:=by
   unfold walkN at hw
   injection hw with hw
   injection hw with h1 _
   rw [close_fst] at h1
   exact h1
  have hD2:D2=D.set i ((X.length:Int)+1):=by
   unfold walkN at hw
   injection hw with hw
   injection hw with _ h2
   injection h2 with _ h3
   exact h3.symm
  have hcp:=closeT_put h ((i,0)::X) (fun q hq=>by
   rcases List.mem_cons.1 hq with rfl | hq
   ·show i<s.length; omega
   ·have:=hX q hq; omega)
  rw [hcl,List.map_nil] at hcp
  obtain⟨Ex,c1,c2,-,-⟩:=close_app l (p+i) U _ E' hcp
  refine⟨Ex,D'.set (p+i) (((X.map (shF p)++U).length:Int)+1),c2,by rw [List.length_set],fun r=>?_,fun a h1 h2=>?_,fun a h1=>?_⟩
  ·rw [show 0+1+r=r+1 by omega,walkN,come_put h hi (fun q hq=>by have:=hT q hq; omega) hc]
   simp only
   rw [show (p+i,0)::(X.map (shF p)++U)=((i,0)::X).map (shF p)++U from rfl,c1,show p+s.length=p+i+1 by omega,show p+i+1 - 1=p+i by omega]
  ·obtain rfl:a=i:=by omega
   rw [hD2,List.getD_eq_getElem?_getD,List.getElem?_set_self (by omega),List.getD_eq_getElem?_getD,List.getElem?_set_self (by omega)]
   simp only [Option.getD_some,List.length_append,List.length_map]
   omega
  ·rw [List.getD_eq_getElem?_getD,List.getElem?_set_ne (by omega),←List.getD_eq_getElem?_getD]
 | succ g ih=>
  intro i T E D E2 D2 hg hi hT hw E' D' hD hDl
  have hw0:=hw
  unfold walkN at hw
  split at hw
  ·cases hw
  rename_i X hc
  have hX:=come_lt (b:=i) hT hc
  have hin:∀ q∈(i,0)::X,q.1<s.length:=fun q hq=>by
   rcases List.mem_cons.1 hq with rfl | hq
   ·show i<s.length; omega
   ·have:=hX q hq; omega
  have hcl:closeT s ((i,0)::X)≠[]:=fun h0=>by
   rw [close_fst,h0] at hw
   unfold walkN at hw
   rw [comeN,if_pos (by omega)] at hw
   cases hw
  have hcp:=closeT_put h ((i,0)::X) hin
  have hcl2:closeT l (((i,0)::X).map (shF p))≠[]:=fun h0=>by
   rw [hcp] at h0
   exact hcl (List.map_eq_nil_iff.1 h0)
  obtain⟨Ec,c1,c2⟩:=close_stop l (p+i) U _ E' hcl2
  have hk:=walk_keepD _ _ _ _ _ hw
  rw [close_fst] at hw
  obtain⟨Ex,Dx,x1,x2,x3,x4,x5⟩:=ih (i+1) _ _ _ E2 D2 (by omega) (by omega) (fun q hq=>by
   rcases List.mem_cons.1 (closeT_sub s _ q hq) with rfl | hq
   ·exact Nat.lt_succ_self _
   ·exact Nat.lt_succ_of_lt (hX q hq)) hw Ec (D'.set (p+i) (((X.map (shF p)++U).length:Int)+1)) (by rw [List.length_set]; exact hD) (by rw [List.length_set]; exact hDl)
  refine⟨Ex,Dx,by rw [x1,c2],by rw [x2,List.length_set],fun r=>?_,fun a h1 h2=>?_,fun a h1=>?_⟩
  ·rw [←x3 r,show g+1+1+r=(g+1+r)+1 by omega,walkN,come_put h hi (fun q hq=>by have:=hT q hq; omega) hc]
   simp only
   rw [show (p+i,0)::(X.map (shF p)++U)=((i,0)::X).map (shF p)++U from rfl,c1,hcp,show p+i+1=p+(i+1) by omega]
  ·rcases Nat.lt_or_ge i a with q | q
   ·exact x4 a (by omega) h2
   ·obtain rfl:a=i:=by omega
    rw [x5 (p+a) (.inl (by omega)),hk a (by omega),List.getD_eq_getElem?_getD,List.getElem?_set_self (by omega),List.getD_eq_getElem?_getD,List.getElem?_set_self (by omega)]
    simp only [Option.getD_some,List.length_append,List.length_map]
    omega
  ·rw [x5 a (by omega),List.getD_eq_getElem?_getD,List.getElem?_set_ne (by omega),←List.getD_eq_getElem?_getD]
theorem put_value {l s:List Nd} {p:Nat} {T0 U:List Fm} {E2 D2:List Int} (h:PutAt l s p) (hs:shapeN s=some (E2,D2)) (hc:comeN l p T0=some U) (E' D' : List Int) (hD:p+s.length≤D'.length) :
  ∃ Ex Dx,Ex.length=E'.length∧Dx.length=D'.length∧(∀ r,walkN l (s.length+r) p T0 E' D' = walkN l r (p+s.length) (closeN l (p+s.length - 1) U Ex).1 (closeN l (p+s.length - 1) U Ex).2 Dx)∧
   (∀ a,a<s.length→Dx.getD (p+a) 0=D2.getD a 0+U.length)∧(∀ a,(a<p∨p+s.length≤a)→Dx.getD a 0=D'.getD a 0):=by
 obtain⟨h0,hE2,hD2,-,-⟩:=shape_some hs
 obtain⟨n,hn⟩:∃ n,s.length=n+1:=⟨s.length - 1,by omega⟩
 have hw:walkN s (n+1) 0 [] (zers (n+1)) (zers (n+1))=some ([],E2,D2):=by
  rw [shapeN_is,hn] at hs
  unfold shapeR at hs
  split at hs
  ·rename_i E D hw
   rw [if_pos (by omega)] at hs
   injection hs with hs
   injection hs with e1 e2
   rw [hw,e1,e2]
  ·cases hs
 have hk0:kidsAt l p=(kidsAt s 0).map (· + (p:Int)):=by have:=h 0 h0; rwa [Nat.add_zero] at this
 have hw0:=hw
 rw [walkN,comeN,if_neg (by omega)] at hw
 simp only at hw
 have hk:=walk_keepD _ _ _ _ _ hw 0 (by omega)
 rw [List.getD_eq_getElem?_getD,List.getD_eq_getElem?_getD,List.getElem?_set_self (by rw [zers_len]; omega)] at hk
 by_cases hz:0<(kidsAt s 0).length
 ·rw [closeN,if_pos hz] at hw
  obtain _ | g:=n
  ·unfold walkN at hw
   injection hw with hw
   injection hw with h1 _
   cases h1
  have hst:closeN l p ((p,0)::U) E' = ((p,0)::U,E'):=by rw [closeN,if_pos (by rw [hk0,List.length_map]; exact hz)]
  obtain⟨Ex,Dx,x1,x2,x3,x4,x5⟩:=put_run (U:=U) h g 1 [(0,0)] _ _ E2 D2 (by omega) (by omega) (by simp) hw E' (D'.set p ((U.length:Int)+1)) (by rw [List.length_set]; exact hD) (by rw [List.length_set,zers_len]; omega)
  refine⟨Ex,Dx,x1,by rw [x2,List.length_set],fun r=>?_,fun a ha=>?_,fun a ha=>?_⟩
  ·rw [←x3 r,show s.length+r=(g+1+r)+1 by omega,walkN,hc]
   simp only
   rw [hst]
   rfl
  ·rcases Nat.lt_or_ge 0 a with q | q
   ·exact x4 a q ha
   ·obtain rfl:a=0:=by omega
    rw [x5 (p+0) (.inl (by omega)),Nat.add_zero,List.getD_eq_getElem?_getD,List.getElem?_set_self (by omega),List.getD_eq_getElem?_getD,hk]
    simp only [Option.getD_some,List.length_nil]
    omega
  ·rw [x5 a (by omega),List.getD_eq_getElem?_getD,List.getElem?_set_ne (by omega),←List.getD_eq_getElem?_getD]
 ·have hcl:closeN s 0 [(0,0)] (zers (n+1))=([],(zers (n+1)).set 0 (((0:Nat):Int)+1)):=by rw [closeN,if_neg hz]; rfl
  rw [hcl] at hw
  obtain _ | g:=n
  case succ=>
   unfold walkN at hw
   rw [comeN,if_pos (by omega)] at hw
   cases hw
  refine⟨E'.set p ((p:Int)+1),D'.set p ((U.length:Int)+1),by rw [List.length_set],by rw [List.length_set],fun r=>?_,fun a ha=>?_,fun a ha=>?_⟩
  ·rw [show s.length+r=r+1 by omega,walkN,hc]
   simp only
   rw [closeN,if_neg (by rw [hk0,List.length_map]; exact hz),show p+s.length=p+1 by omega,show p+1 - 1=p by omega]
  ·obtain rfl:a=0:=by omega
   rw [Nat.add_zero,List.getD_eq_getElem?_getD,List.getElem?_set_self (by omega),List.getD_eq_getElem?_getD,hk]
   simp only [Option.getD_some,List.length_nil]
   omega
  ·rw [List.getD_eq_getElem?_getD,List.getElem?_set_ne (by omega),←List.getD_eq_getElem?_getD]
def posN:Nat→List (List Nd)→List Int
 | _,[]=>[]
 | b,x::r=>(b:Int)::posN (b+x.length) r
def bodyN:Nat→List (List Nd)→List Nd
 | _,[]=>[]
 | b,x::r=>x.map (moveN (b:Int))++bodyN (b+x.length) r
def lenN:List (List Nd)→Nat
 | []=>0
 | x::r=>x.length+lenN r
def wholeN (kind:Int) (ls:List (List Nd)):List Nd:=rootN kind (posN 1 ls)::bodyN 1 ls
theorem body_len:∀ (r:List (List Nd)) (b:Nat),(bodyN b r).length=lenN r
 | [],_=>rfl
 | x::r,b=>by rw [bodyN,lenN,List.length_append,List.length_map,body_len r]
theorem pos_len:∀ (r:List (List Nd)) (b:Nat),(posN b r).length=r.length
 | [],_=>rfl
 | x::r,b=>by rw [posN,List.length_cons,List.length_cons,pos_len r]
theorem under_go (kind:Int):∀ (r:List (List Nd)) (K:List Int) (M:List Nd),1+M.length≤65536→∀ W,rootN kind (K++posN (1+M.length) r)::(M++bodyN (1+M.length) r)=W→
  underF kind r K M=if checkN W=0 then (W,0) else ([],checkN W)
 | [],K,M,h,W,hW=>by
  rw [posN,bodyN,List.append_nil,List.append_nil] at hW
  rw [underF,hW]
 | x::r,K,M,h,W,hW=>by
  rw [underF]
  split
  ·rename_i h2
   have hl:W.length=1+M.length+(x.length+lenN r):=by rw [←hW,List.length_cons,List.length_append,body_len,lenN]; omega
   have hc:checkN W=3:=by rw [checkN,if_pos (by omega)]
   rw [hc,if_neg (by omega)]
  ·rename_i h2
   have hm:(M++x.map (moveN ((1+M.length:Nat):Int))).length=M.length+x.length:=by simp
   refine under_go kind r _ _ (by rw [hm]; omega) W ?_
   rw [hm,←hW,posN,bodyN,List.append_assoc,List.append_assoc,List.singleton_append,Nat.add_assoc]
theorem under_is (kind:Int) (ls:List (List Nd)):underN kind ls=if checkN (wholeN kind ls)=0 then (wholeN kind ls,0) else ([],checkN (wholeN kind ls)):=
 under_go kind ls [] [] (by simp) _ rfl
def PutsAt (l:List Nd):Nat→List (List Nd)→Prop
 | _,[]=>True
 | b,x::r=>PutAt l x b∧PutsAt l (b+x.length) r
theorem puts_body:∀ (r:List (List Nd)) (pre:List Nd) (b:Nat),pre.length=b→PutsAt (pre++bodyN b r) b r
 | [],_,_,_=>trivial
 | x::r,pre,b,hb=>by
  refine⟨fun a ha=>?_,?_⟩
  ·rw [bodyN,kidsAt,kidsAt,List.getElem?_append_right (by omega),show b+a - pre.length=a by omega,List.getElem?_append_left (by rw [List.length_map]; exact ha),List.getElem?_map,List.getElem?_eq_getElem ha]
   rfl
  ·rw [bodyN,←List.append_assoc]
   exact puts_body r _ _ (by rw [List.length_append,List.length_map,hb])
def deepsN (r:List (List Nd)):List Int:=r.flatMap fun x=>(depsN x).map (· + 1)
theorem rest_walk {l:List Nd}:∀ (r:List (List Nd)) (b j:Nat) (E D:List Int),0<b→(kidsAt l 0).drop j=posN b r→PutsAt l b r→b+lenN r=l.length→D.length=l.length→(∀ x∈r,shapeN x≠none)→
  ∃ Ex Dx,walkN l (lenN r) b (closeN l (b - 1) [(0,j)] E).1 (closeN l (b - 1) [(0,j)] E).2 D=some ([],Ex,Dx)∧Dx.length=D.length∧(∀ a,a<b→Dx.getD a 0=D.getD a 0)∧Dx.drop b=deepsN r
 | [],b,j,E,D,hb,hK,hP,hl,hD,hs=>by
  have hj:¬ j<(kidsAt l 0).length:=fun h=>by
   have:=congrArg List.length hK
   rw [List.length_drop,posN,List.length_nil] at this
   omega
  rw [closeN,if_neg hj]
  refine⟨_,D,rfl,rfl,fun _ _=>rfl,?_⟩
  rw [lenN] at hl
  rw [List.drop_eq_nil_of_le (by omega)]
  rfl
 | x::r,b,j,E,D,hb,hK,hP,hl,hD,hs=>by
  have hj:j<(kidsAt l 0).length:=by
   have:=congrArg List.length hK
   rw [List.length_drop,posN,List.length_cons] at this
   omega
  rw [drop_at _ j hj,posN] at hK
  injection hK with hk1 hk2
  have hc:comeN l b [(0,j)]=some [(0,j+1)]:=by
   rw [comeN,if_pos hb,List.getElem?_eq_getElem hj,hk1,if_pos rfl]
  rw [lenN] at hl
  obtain⟨⟨E2,D2⟩,hx⟩:=Option.ne_none_iff_exists'.1 (hs x (by simp))
  obtain⟨-,hE2,hD2,-,-⟩:=shape_some hx
  obtain⟨Ea,Da,a1,a2,a3,a4,a5⟩:=put_value hP.1 hx hc E D (by omega)
  obtain⟨Ex,Dx,x1,x2,x3,x4⟩:=rest_walk r (b+x.length) (j+1) Ea Da (by omega) hk2 hP.2 (by omega) (by omega) (fun y hy=>hs y (by simp [hy]))
  refine⟨Ex,Dx,?_,by omega,fun a ha=>by rw [x3 a (by omega),a5 a (.inl ha)],?_⟩
  ·rw [closeN,if_pos hj,lenN,a3]
   exact x1
  ·have hd:depsN x=D2:=by rw [depsN,hx]
   rw [deepsN,List.flatMap_cons,←deepsN,←x4,hd]
   refine List.ext_getElem? fun a=>?_
   rcases Nat.lt_or_ge a x.length with q | q
   ·have h1:=a4 a q
    rw [←x3 (b+a) (by omega)] at h1
    rw [List.getElem?_append_left (by rw [List.length_map]; omega),List.getElem?_drop,List.getElem?_map,List.getElem?_eq_getElem (show b+a<Dx.length by omega),List.getElem?_eq_getElem (show a<D2.length by omega)]
    rw [List.getD_eq_getElem?_getD,List.getElem?_eq_getElem (show b+a<Dx.length by omega),List.getD_eq_getElem?_getD,List.getElem?_eq_getElem (show a<D2.length by omega)] at h1
    simp only [Option.getD_some,List.length_singleton] at h1
    rw [h1]
    rfl
   ·rw [List.getElem?_append_right (by rw [List.length_map]; omega),List.getElem?_drop,List.getElem?_drop,List.length_map]
    congr 1
    omega
theorem whole_len (kind:Int) (ls:List (List Nd)):(wholeN kind ls).length=1+lenN ls:=by rw [wholeN,List.length_cons,body_len]; omega
theorem whole_shape (kind:Int) (ls:List (List Nd)) (hs:∀ x∈ls,shapeN x≠none):∃ E,shapeN (wholeN kind ls)=some (E,1::deepsN ls):=by
 obtain⟨l,hl⟩:∃ l,wholeN kind ls=l:=⟨_,rfl⟩
 have hn:l.length=lenN ls+1:=by rw [←hl,whole_len]; omega
 have hk:kidsAt l 0=posN 1 ls:=by rw [←hl]; rfl
 have hP:PutsAt l 1 ls:=by rw [←hl]; exact puts_body ls [_] 1 rfl
 obtain⟨Ex,Dx,x1,x2,x3,x4⟩:=rest_walk (l:=l) ls 1 0 (zers l.length) ((zers l.length).set 0 1) (by omega) (by rw [List.drop_zero,hk]) hP (by omega) (by rw [List.length_set,zers_len]) hs
 have h0:Dx.getD 0 0=1:=by
  rw [x3 0 (by omega),List.getD_eq_getElem?_getD,List.getElem?_set_self (by rw [zers_len]; omega)]
  rfl
 have hDx:Dx=1::deepsN ls:=by
  obtain _ | ⟨d,Dx⟩:=Dx
  ·rw [List.length_set,zers_len] at x2; simp at x2; omega
  ·rw [List.drop_succ_cons,List.drop_zero] at x4
   rw [x4,show d=1 from h0]
 refine⟨Ex,?_⟩
 rw [hl,shapeN_is,←hDx]
 have hw:walkN l l.length 0 [] (zers l.length) (zers l.length)=some ([],Ex,Dx):=by
  rw [←x1]
  generalize zers l.length=z
  rw [hn,walkN,comeN,if_neg (by omega)]
  rfl
 rw [hw,shapeR,if_pos (by omega)]
def NdPut (l x:List Nd) (p:Nat):Prop:=∀ a,a<x.length→l[p+a]? = (x[a]?).map (moveN (p:Int))
def NdPuts (l:List Nd):Nat→List (List Nd)→Prop
 | _,[]=>True
 | b,x::r=>NdPut l x b∧NdPuts l (b+x.length) r
theorem ndputs_body:∀ (r:List (List Nd)) (pre:List Nd) (b:Nat),pre.length=b→NdPuts (pre++bodyN b r) b r
 | [],_,_,_=>trivial
 | x::r,pre,b,hb=>by
  refine⟨fun a ha=>?_,?_⟩
  ·rw [bodyN,List.getElem?_append_right (by omega),show b+a - pre.length=a by omega,List.getElem?_append_left (by rw [List.length_map]; exact ha),List.getElem?_map]
  ·rw [bodyN,←List.append_assoc]
   exact ndputs_body r _ _ (by rw [List.length_append,List.length_map,hb])
theorem whole_puts (kind:Int) (ls:List (List Nd)):NdPuts (wholeN kind ls) 1 ls:=ndputs_body ls [_] 1 rfl
theorem nd_put {l x:List Nd} {p:Nat} (h:NdPut l x p) {c:Int} (h0:0≤c) (h1:c<(x.length:Int)):ndAt l (c+p)=moveN (p:Int) (ndAt x c):=by
 obtain⟨a,rfl⟩:∃ a:Nat,c=(a:Int):=⟨c.toNat,by omega⟩
 rw [ndAt,ndAt,Int.toNat_natCast,show ((a:Int)+(p:Int)).toNat=p+a by omega,List.getD_eq_getElem?_getD,List.getD_eq_getElem?_getD,h a (by omega),List.getElem?_eq_getElem (show a<x.length by omega)]
 rfl
theorem rises_put {l x:List Nd} {p:Nat} (h:NdPut l x p):∀ (pr:Option ByteArray) (L:List Int),(∀ k∈L,0≤k∧k<(x.length:Int))→risesN l pr (L.map (· + (p:Int)))=risesN x pr L
 | _,[],_=>rfl
 | _,[_],_=>rfl
 | pr,k::m::r,hL=>by
  have hk:=hL k (by simp)
  rw [List.map_cons,List.map_cons,risesN,risesN,nd_put h hk.1 hk.2,rises_put h _ r (fun q hq=>hL q (by simp [hq]))]
  rfl
theorem node_put {l x:List Nd} {p:Nat} (h:NdPut l x p) (hx:checkN x=0):(x.map (moveN (p:Int))).all (nodeOk l)=true:=by
 obtain⟨-,-,E,D,hs,-,hall⟩:=check_zero hx
 rw [List.all_eq_true] at hall ⊢
 intro z hz
 obtain⟨y,hy,rfl⟩:=List.mem_map.1 hz
 have hok:=hall y hy
 obtain⟨-,-,-,sK,-⟩:=shape_some hs
 obtain⟨a,ha,hka⟩:=kidsAt_mem hy
 rw [nodeOk] at hok ⊢
 rw [bare_move]
 have hr:risesN l none (moveN (p:Int) y).kids=risesN x none y.kids:=rises_put h none y.kids (fun k hk=>by
  rw [←hka] at hk
  obtain⟨jj,hjj⟩:=List.getElem?_of_mem hk
  have:=sK a ha jj _ hjj
  omega)
 have hlen:(moveN (p:Int) y).kids.length=y.kids.length:=List.length_map _
 rw [hr,hlen]
 exact hok
theorem body_all {l:List Nd}:∀ (r:List (List Nd)) (b:Nat),NdPuts l b r→(∀ x∈r,checkN x=0)→(bodyN b r).all (nodeOk l)=true
 | [],_,_,_=>rfl
 | x::r,b,h,hc=>by
  rw [bodyN,List.all_append,node_put h.1 (hc x (by simp)),body_all r _ h.2 (fun y hy=>hc y (by simp [hy]))]
  rfl
def shallow (ls:List (List Nd)):Prop:=∀ x∈ls,∀ d∈depsN x,d≤255
theorem deeps_le (ls:List (List Nd)):Lib.maxOf (1::deepsN ls)≤256↔shallow ls:=by
 constructor
 ·intro h x hx d hd
  have:=le_maxOf (D:=1::deepsN ls) (x:=d+1) (List.mem_cons_of_mem _ (List.mem_flatMap.2 ⟨x,hx,List.mem_map_of_mem (f:=(· + 1)) hd⟩))
  omega
 ·intro h
  refine maxOf_le (by simp) (fun y hy=>?_)
  rcases List.mem_cons.1 hy with rfl | hy
  ·omega
  ·obtain⟨x,hx,hy⟩:=List.mem_flatMap.1 hy
   obtain⟨d,hd,rfl⟩:=List.mem_map.1 hy
   have:=h x hx d hd
   omega
theorem shape_checked {x:List Nd} (h:checkN x=0):shapeN x≠none:=by
 obtain⟨-,-,E,D,hs,-⟩:=check_zero h
 rw [hs]
 exact Option.some_ne_none _
theorem whole_check {kind:Int} {ls:List (List Nd)} (hc:∀ x∈ls,checkN x=0) (hr:nodeOk (wholeN kind ls) (rootN kind (posN 1 ls))=true) :
  (checkN (wholeN kind ls)=0∧(wholeN kind ls).length≤65536∧shallow ls)∨(checkN (wholeN kind ls)=3∧(65536<(wholeN kind ls).length∨¬ shallow ls)):=by
 by_cases hl:65536<(wholeN kind ls).length
 ·exact .inr ⟨by rw [checkN,if_pos hl],.inl hl⟩
 obtain⟨E,hs⟩:=whole_shape kind ls (fun x hx=>shape_checked (hc x hx))
 by_cases hd:shallow ls
 ·refine .inl ⟨?_,by omega,hd⟩
  have hb:(bodyN 1 ls).all (nodeOk (wholeN kind ls))=true:=body_all ls 1 (whole_puts kind ls) hc
  have ha:(wholeN kind ls).all (nodeOk (wholeN kind ls))=true:=by
   show (nodeOk (wholeN kind ls) (rootN kind (posN 1 ls))&&(bodyN 1 ls).all (nodeOk (wholeN kind ls)))=true
   rw [hr,hb]
   rfl
  have hm:=(deeps_le ls).2 hd
  rw [checkN,if_neg hl,hs]
  simp only
  rw [if_neg (by omega),if_pos ha]
 ·refine .inr ⟨?_,.inr hd⟩
  have hm:¬ Lib.maxOf (1::deepsN ls)≤256:=fun h=>hd ((deeps_le ls).1 h)
  rw [checkN,if_neg hl,hs]
  simp only
  rw [if_pos (by omega)]
theorem root7 (ls:List (List Nd)):nodeOk (wholeN 7 ls) (rootN 7 (posN 1 ls))=true:=by simp [nodeOk,bareN,rootN]
def strictF:Option ByteArray→List Ent→Bool
 | _,[]=>true
 | pr,p::r=>belowN pr p.1&&strictF (some p.1) r
theorem rises_all {l:List Nd}:∀ (S:List Ent) (b:Nat) (pr:Option ByteArray),NdPuts l b (allN S)→risesN l pr (posN b (allN S))=strictF pr S
 | [],_,_,_=>rfl
 | p::S,b,pr,h=>by
  rw [allN_cons] at h ⊢
  have hn:ndAt l (b:Int)=nameNd p.1:=by
   have:=nd_put h.1 (c:=0) (by omega) (by simp)
   rw [Int.zero_add] at this
   rw [this]
   rfl
  rw [posN,posN,risesN,hn,rises_all S _ _ h.2.2,strictF]
  rfl
theorem root8 {S:List Ent} (h:strictF none S=true):nodeOk (wholeN 8 (allN S)) (rootN 8 (posN 1 (allN S)))=true:=by
 have hr:=rises_all S 1 none (whole_puts 8 (allN S))
 rw [h] at hr
 have he:(rootN 8 (posN 1 (allN S))).kids.length % 2=0:=by
  show (posN 1 (allN S)).length % 2=0
  rw [pos_len,allN_len]; omega
 rw [nodeOk,show risesN (wholeN 8 (allN S)) none (rootN 8 (posN 1 (allN S))).kids=true from hr,he]
 simp [bareN,rootN]
theorem move_back (p:Int) (x:List Nd):(x.map (moveN p)).map (moveN (-p))=x:=by
 rw [List.map_map]
 conv=>rhs; rw [←List.map_id x]
 refine List.map_congr_left fun y _=>?_
 obtain⟨a,b,c,d,e⟩:=y
 simp only [Function.comp,moveN,id,List.map_map]
 congr 1
 conv=>rhs; rw [←List.map_id e]
 refine List.map_congr_left fun k _=>?_
 simp only [Function.comp,id]
 omega
theorem put_cut {l x:List Nd} {p:Nat} (h:NdPut l x p) (hl:p+x.length≤l.length):((l.take (p+x.length)).drop p)=x.map (moveN (p:Int)):=by
 refine List.ext_getElem? fun a=>?_
 rcases Nat.lt_or_ge a x.length with q | q
 ·rw [List.getElem?_drop,List.getElem?_take,if_pos (by omega),h a q,List.getElem?_map]
 ·rw [List.getElem?_eq_none (by rw [List.length_drop,List.length_take]; omega),List.getElem?_eq_none (by rw [List.length_map]; exact q)]
theorem subs_go {l:List Nd} {E D:List Int} (hs:shapeN l=some (E,D)):∀ (r:List (List Nd)) (b:Nat),NdPuts l b r→b+lenN r=l.length→chainP E (posN b r) b l.length→(posN b r).map (fun k=>subN l k.toNat)=r
 | [],_,_,_,_=>rfl
 | x::r,b,h,hl,hc=>by
  rw [lenN] at hl
  rw [posN,chainP] at hc
  have hc2:=hc.2
  rw [Int.toNat_natCast] at hc2
  have he:E.getD b 0=((b+x.length:Nat):Int):=by
   obtain _ | ⟨y,r⟩:=r
   ·rw [posN,chainP] at hc2
    rw [hc2,←hl]
    rfl
   ·rw [posN,chainP] at hc2
    exact hc2.1.symm
  rw [he] at hc2
  rw [posN,List.map_cons,subs_go hs r _ h.2 (by omega) hc2,Int.toNat_natCast,subN,hs]
  simp only
  rw [he,Int.toNat_natCast,put_cut h.1 (by omega),move_back]
theorem whole_root (kind:Int) (ls:List (List Nd)):ndAt (wholeN kind ls) 0=rootN kind (posN 1 ls):=rfl
theorem whole_subs {kind:Int} {ls:List (List Nd)} (h:checkN (wholeN kind ls)=0):(posN 1 ls).map (fun k=>subN (wholeN kind ls) k.toNat)=ls:=by
 have hC:=cuts_ok (p:=0) h (by rw [whole_len]; omega)
 have hch:=hC.chain
 rw [hC.all] at hch
 obtain⟨-,-,E,D,hs,-⟩:=check_zero h
 rw [endsN,hs] at hch
 exact subs_go hs ls 1 (whole_puts kind ls) (by rw [whole_len]) hch
theorem is_whole {kind:Int} {ls:List (List Nd)} (h:checkN (wholeN kind ls)=0):isN (wholeN kind ls) kind=true:=by
 rw [isN,h,whole_root]
 simp [rootN]
theorem pairs_all {l:List Nd}:∀ (S:List Ent) (b:Nat),NdPuts l b (allN S)→(posN b (allN S)).map (fun k=>subN l k.toNat)=allN S→pairsN l (posN b (allN S))=S∧(evensN (posN b (allN S))).map (fun k=>(ndAt l k).s)=S.map (·.1)
 | [],_,_,_=>⟨rfl,rfl⟩
 | p::S,b,h,hm=>by
  rw [allN_cons] at h hm ⊢
  have hn:ndAt l (b:Int)=nameNd p.1:=by
   have:=nd_put h.1 (c:=0) (by omega) (by simp)
   rw [Int.zero_add] at this
   rw [this]
   rfl
  rw [posN,posN,List.map_cons,List.map_cons] at hm
  injection hm with h1 h2
  injection h2 with h2 h3
  obtain⟨r1,r2⟩:=pairs_all S _ h.2.2 h3
  rw [posN,posN,pairsN,evensN,List.map_cons,List.map_cons,hn,r1,r2,h2]
  exact⟨rfl,rfl⟩
theorem pairs_whole {S:List Ent} (h:checkN (wholeN 8 (allN S))=0):pairsN (wholeN 8 (allN S)) (posN 1 (allN S))=S:=(pairs_all S 1 (whole_puts 8 _) (whole_subs h)).1
theorem names_whole {S:List Ent} (h:checkN (wholeN 8 (allN S))=0):namesN (wholeN 8 (allN S))=S.map (·.1):=by
 rw [namesN,if_pos (is_whole h),whole_root]
 exact (pairs_all S 1 (whole_puts 8 _) (whole_subs h)).2
theorem bl_irrefl:∀ x:List UInt8,Op.bytesLess x x=false
 | []=>rfl
 | a::x=>by simp [Op.bytesLess,bl_irrefl x]
theorem bl_trans:∀ x y z:List UInt8,Op.bytesLess x y=true→Op.bytesLess y z=true→Op.bytesLess x z=true
 | x,[],_,h,_=>by cases x <;> simp [Op.bytesLess] at h
 | _,y::ys,[],_,h=>by simp [Op.bytesLess] at h
 | [],y::ys,z::zs,_,_=>rfl
 | a::x,b::y,c::z,h1,h2=>by
  rw [Op.bytesLess,Bool.or_eq_true,Bool.and_eq_true,decide_eq_true_eq,beq_iff_eq] at h1 h2 ⊢
  rcases h1 with h1 | ⟨rfl,h1⟩
  ·rcases h2 with h2 | ⟨rfl,h2⟩
   ·exact .inl (UInt8.lt_trans h1 h2)
   ·exact .inl h1
  ·rcases h2 with h2 | ⟨rfl,h2⟩
   ·exact .inl h2
   ·exact .inr ⟨rfl,bl_trans x y z h1 h2⟩
theorem bl_tri:∀ x y:List UInt8,Op.bytesLess x y=true∨x=y∨Op.bytesLess y x=true
 | [],[]=>.inr (.inl rfl)
 | [],_::_=>.inl rfl
 | _::_,[]=>.inr (.inr rfl)
 | a::x,b::y=>by
  rw [Op.bytesLess,Op.bytesLess,Bool.or_eq_true,Bool.or_eq_true,Bool.and_eq_true,Bool.and_eq_true,decide_eq_true_eq,decide_eq_true_eq,beq_iff_eq,beq_iff_eq]
  by_cases h:a<b
  ·exact .inl (.inl h)
  by_cases h' : b<a
  ·exact .inr (.inr (.inl h'))
  obtain rfl:a=b:=UInt8.le_antisymm (UInt8.not_lt.1 h') (UInt8.not_lt.1 h)
  rcases bl_tri x y with q | rfl | q
  ·exact .inl (.inr ⟨rfl,q⟩)
  ·exact .inr (.inl rfl)
  ·exact .inr (.inr (.inr ⟨rfl,q⟩))
theorem cb_spec:∀ (x y:List UInt8),(Lib.compareBytes x y<0↔Op.bytesLess x y=true)∧(Lib.compareBytes x y=0↔x=y)
 | [],[]=>by simp [Lib.compareBytes,Op.bytesLess]
 | [],_::_=>by simp [Lib.compareBytes,Op.bytesLess]
 | _::_,[]=>by simp [Lib.compareBytes,Op.bytesLess]
 | a::x,b::y=>by
  obtain⟨h1,h2⟩:=cb_spec x y
  rw [Lib.compareBytes,Op.bytesLess]
  by_cases h:a<b
  ·have hne:a≠b:=fun e=>by subst e; exact UInt8.lt_irrefl a h
   rw [if_pos h]
   simp [h,hne]
  ·rw [if_neg h]
   by_cases h' : b<a
   ·have hne:a≠b:=fun e=>by subst e; exact UInt8.lt_irrefl a h'
    rw [if_pos h']
    simp [h,hne]
   ·obtain rfl:a=b:=UInt8.le_antisymm (UInt8.not_lt.1 h') (UInt8.not_lt.1 h)
    rw [if_neg h',h1,h2]
    simp
def ltB (a b:ByteArray):Prop:=Op.bytesLess a.toList b.toList=true
theorem tl_inj {a b:ByteArray}:a.toList=b.toList↔a=b:=by
 rw [ByteArray.toList_eq,ByteArray.toList_eq]
 constructor
 ·intro h
  obtain⟨⟨a⟩⟩:=a
  obtain⟨⟨b⟩⟩:=b
  simp only at h
  rw [h]
 ·rintro rfl; rfl
theorem ltB_irrefl (a:ByteArray):¬ ltB a a:=fun h=>by rw [ltB,bl_irrefl] at h; cases h
theorem ltB_trans {a b c:ByteArray} (h:ltB a b) (h' : ltB b c):ltB a c:=bl_trans _ _ _ h h'
theorem ltB_tri (a b:ByteArray):ltB a b∨a=b∨ltB b a:=by
 rcases bl_tri a.toList b.toList with h | h | h
 ·exact .inl h
 ·exact .inr (.inl (tl_inj.1 h))
 ·exact .inr (.inr h)
theorem cmpN_lt (a b:ByteArray):cmpN a b<0↔ltB a b:=by
 rw [cmpN,ltB,ByteArray.toList_eq,ByteArray.toList_eq]
 exact (cb_spec _ _).1
theorem cmpN_zero (a b:ByteArray):cmpN a b=0↔a=b:=by
 rw [cmpN,(cb_spec _ _).2,←ByteArray.toList_eq,←ByteArray.toList_eq,tl_inj]
section
variable {α:Type} (key:α→ByteArray)
theorem insG_perm (x:α):∀ R:List α,(insG key x R).Perm (x::R)
 | []=>List.Perm.refl _
 | y::R=>by
  rw [insG]
  split
  ·exact ((insG_perm x R).cons y).trans (List.Perm.swap x y R)
  ·exact List.Perm.refl _
theorem sortRG_perm:∀ (r acc:List α),(sortRG key acc r).Perm (acc++r)
 | [],acc=>by rw [sortRG,List.append_nil]
 | x::r,acc=>by
  rw [sortRG]
  refine (sortRG_perm r _).trans ?_
  refine ((insG_perm key x acc).append_right r).trans ?_
  rw [List.cons_append]
  exact List.perm_middle.symm
theorem sortG_perm (l:List α):(sortG key l).Perm l:=by
 rw [sortG]
 refine (List.reverse_perm _).trans ?_
 have:=sortRG_perm key l []
 rwa [List.nil_append] at this
theorem insG_desc (x:α):∀ R:List α,R.Pairwise (fun a b=>¬ ltB (key a) (key b))→(insG key x R).Pairwise (fun a b=>¬ ltB (key a) (key b))
 | [],_=>by simp [insG]
 | y::R,h=>by
  rw [List.pairwise_cons] at h
  rw [insG]
  split
  ·rename_i hlt
   rw [cmpN_lt] at hlt
   rw [List.pairwise_cons]
   refine⟨fun z hz=>?_,insG_desc x R h.2⟩
   rcases (insG_mem key x R z).1 hz with rfl | hz
   ·exact fun h'=>ltB_irrefl _ (ltB_trans h' hlt)
   ·exact h.1 z hz
  ·rename_i hlt
   rw [cmpN_lt] at hlt
   rw [List.pairwise_cons,List.pairwise_cons]
   refine⟨fun z hz=>?_,h⟩
   rcases List.mem_cons.1 hz with rfl | hz
   ·exact hlt
   ·intro hxz
    rcases ltB_tri (key y) (key x) with q | q | q
    ·exact h.1 z hz (ltB_trans q hxz)
    ·rw [←q] at hxz; exact h.1 z hz hxz
    ·exact hlt q
theorem sortRG_desc:∀ (r acc:List α),acc.Pairwise (fun a b=>¬ ltB (key a) (key b))→(sortRG key acc r).Pairwise (fun a b=>¬ ltB (key a) (key b))
 | [],acc,h=>h
 | x::r,acc,h=>by
  rw [sortRG]
  exact sortRG_desc r _ (insG_desc key x acc h)
theorem sortG_up (l:List α):(sortG key l).Pairwise (fun a b=>¬ ltB (key b) (key a)):=by
 rw [sortG,List.pairwise_reverse]
 exact sortRG_desc key l [] List.Pairwise.nil
theorem sort_strict {l:List α} (h:(l.map key).Nodup):(sortG key l).Pairwise (fun a b=>ltB (key a) (key b)):=by
 have h1:=sortG_up key l
 have h2:((sortG key l).map key).Nodup:=((sortG_perm key l).map key).nodup_iff.2 h
 rw [List.Nodup,List.pairwise_map] at h2
 exact (h1.and h2).imp fun {a b} hab=>by
  rcases ltB_tri (key a) (key b) with q | q | q
  ·exact q
  ·exact absurd q hab.2
  ·exact absurd q hab.1
theorem strict_eq:∀ {l m:List α},l.Pairwise (fun a b=>ltB (key a) (key b))→m.Pairwise (fun a b=>ltB (key a) (key b))→l.Perm m→l=m:=fun {l m} hl hm hp=>by
 refine List.Perm.eq_of_pairwise (le:=fun a b=>ltB (key a) (key b)) (fun a b _ _ h1 h2=>absurd (ltB_trans h1 h2) (ltB_irrefl _)) hl hm hp
theorem sort_eq {l m:List α} (h:(l.map key).Nodup) (hp:l.Perm m):sortG key l=sortG key m:=
 strict_eq key (sort_strict key h) (sort_strict key ((hp.map key).nodup_iff.1 h)) (((sortG_perm key l).trans hp).trans (sortG_perm key m).symm)
end
theorem like_false {pr:Option ByteArray} {t:ByteArray} (h:likeN pr t=false):∀ s,pr=some s→s≠t:=by
 rintro s rfl rfl
 simp [likeN] at h
theorem twice_strict:∀ (S:List Ent) (pr:Option ByteArray),S.Pairwise (fun a b=>¬ ltB b.1 a.1)→(∀ s,pr=some s→∀ p∈S,¬ ltB p.1 s)→twiceF pr S=false→strictF pr S=true
 | [],_,_,_,_=>rfl
 | x::r,pr,hS,hp,ht=>by
  rw [twiceF,Bool.or_eq_false_iff] at ht
  rw [List.pairwise_cons] at hS
  rw [strictF,Bool.and_eq_true]
  refine⟨?_,twice_strict r _ hS.2 (fun s hs p hpm=>by injection hs with hs; subst hs; exact hS.1 p hpm) ht.2⟩
  cases pr with
  | none=>rfl
  | some s=>
   rcases ltB_tri s x.1 with q | q | q
   ·exact q
   ·exact absurd q (like_false ht.1 s rfl)
   ·exact absurd q (hp s rfl x (by simp))
theorem strict_up:∀ (S:List Ent) (pr:Option ByteArray),strictF pr S=true→S.Pairwise (fun a b=>ltB a.1 b.1)∧∀ s,pr=some s→∀ p∈S,ltB s p.1
 | [],_,_=>⟨List.Pairwise.nil,fun _ _ _ h=>by cases h⟩
 | x::r,pr,h=>by
  rw [strictF,Bool.and_eq_true] at h
  obtain⟨h1,h2⟩:=strict_up r _ h.2
  refine⟨List.pairwise_cons.2 ⟨fun p hp=>h2 x.1 rfl p hp,h1⟩,fun s hs p hp=>?_⟩
  subst hs
  have hsx:ltB s x.1:=h.1
  rcases List.mem_cons.1 hp with rfl | hp
  ·exact hsx
  ·exact ltB_trans hsx (h2 x.1 rfl p hp)
theorem up_strict:∀ (S:List Ent) (pr:Option ByteArray),S.Pairwise (fun a b=>ltB a.1 b.1)→(∀ s,pr=some s→∀ p∈S,ltB s p.1)→strictF pr S=true
 | [],_,_,_=>rfl
 | x::r,pr,h,hp=>by
  rw [List.pairwise_cons] at h
  rw [strictF,Bool.and_eq_true]
  refine⟨?_,up_strict r _ h.2 (fun s hs p hpm=>by injection hs with hs; subst hs; exact h.1 p hpm)⟩
  cases pr with
  | none=>rfl
  | some s=>exact hp s rfl x (by simp)
theorem up_nodup {S:List Ent} (h:S.Pairwise (fun a b=>ltB a.1 b.1)):(S.map (·.1)).Nodup:=by
 rw [List.Nodup,List.pairwise_map]
 exact h.imp fun {a b} hab e=>by rw [e] at hab; exact ltB_irrefl _ hab
theorem up_twice:∀ (S:List Ent) (pr:Option ByteArray),S.Pairwise (fun a b=>ltB a.1 b.1)→(∀ s,pr=some s→∀ p∈S,ltB s p.1)→twiceF pr S=false
 | [],_,_,_=>rfl
 | x::r,pr,h,hp=>by
  rw [List.pairwise_cons] at h
  rw [twiceF,Bool.or_eq_false_iff]
  refine⟨?_,up_twice r _ h.2 (fun s hs p hpm=>by injection hs with hs; subst hs; exact h.1 p hpm)⟩
  cases pr with
  | none=>rfl
  | some s=>
   have:=hp s rfl x (by simp)
   cases hl:likeN (some s) x.1 with
   | false=>rfl
   | true=>
    simp only [likeN,beq_iff_eq] at hl
    rw [tl_inj] at hl
    rw [hl] at this
    exact absurd this (ltB_irrefl _)
theorem twice_iff (P:List Ent):twiceF none (sortG (·.1) P)=false↔(P.map (·.1)).Nodup:=by
 constructor
 ·intro h
  have h1:=(strict_up _ none (twice_strict _ none (sortG_up (·.1) P) (by simp) h)).1
  exact ((sortG_perm (·.1) P).map (·.1)).nodup_iff.1 (up_nodup h1)
 ·intro h
  exact up_twice _ none (sort_strict (fun p:Ent=>p.1) h) (by simp)
structure EntOk (p:Ent):Prop where
 name:nameN p.1=0
 tree:checkN p.2=0
abbrev Up (S:List Ent):Prop:=S.Pairwise (fun a b=>ltB a.1 b.1)
def wd (S:List Ent):List Nd:=wholeN 8 (allN S)
def srt (P:List Ent):List Ent:=sortG (fun p:Ent=>p.1) P
theorem srt_perm (P:List Ent):(srt P).Perm P:=sortG_perm _ P
theorem srt_up {P:List Ent} (h:(P.map (·.1)).Nodup):Up (srt P):=sort_strict _ h
theorem srt_eq {P Q:List Ent} (h:(P.map (·.1)).Nodup) (hp:P.Perm Q):srt P=srt Q:=sort_eq _ h hp
theorem srt_self {S:List Ent} (h:Up S):srt S=S:=strict_eq (fun p:Ent=>p.1) (srt_up (up_nodup h)) h (srt_perm S)
theorem all_ok:∀ {S:List Ent},(∀ p∈S,EntOk p)→∀ x∈allN S,checkN x=0
 | [],_,x,hx=>by cases hx
 | p::S,h,x,hx=>by
  rw [allN_cons] at hx
  rcases List.mem_cons.1 hx with rfl | hx
  ·exact name_ok (h p (by simp)).name
  ·rcases List.mem_cons.1 hx with rfl | hx
   ·exact (h p (by simp)).tree
   ·exact all_ok (fun q hq=>h q (by simp [hq])) x hx
theorem wd_check {S:List Ent} (h:∀ p∈S,EntOk p) (hu:Up S):(checkN (wd S)=0∧(wd S).length≤65536∧shallow (allN S))∨(checkN (wd S)=3∧(65536<(wd S).length∨¬ shallow (allN S))):=
 whole_check (all_ok h) (root8 (up_strict S none hu (by simp)))
theorem dictN_of {P:List Ent} (h:(P.map (·.1)).Nodup):dictN P=if checkN (wd (srt P))=0 then (wd (srt P),0) else ([],checkN (wd (srt P))):=by
 rw [dictN,(twice_iff P).2 h,if_neg (by simp),under_is]
 rfl
theorem dictN_twice {P:List Ent} (h:¬ (P.map (·.1)).Nodup):dictN P=([],6):=by
 have:twiceF none (sortG (·.1) P)=true:=by
  cases ht:twiceF none (sortG (·.1) P) with
  | true=>rfl
  | false=>exact absurd ((twice_iff P).1 ht) h
 rw [dictN,this,if_pos rfl]
theorem dictN_ok {P:List Ent} (h:(dictN P).2=0):(P.map (·.1)).Nodup∧checkN (wd (srt P))=0∧dictN P=(wd (srt P),0):=by
 by_cases hd:(P.map (·.1)).Nodup
 ·rw [dictN_of hd] at h ⊢
  by_cases hc:checkN (wd (srt P))=0
  ·exact⟨hd,hc,by rw [if_pos hc]⟩
  ·rw [if_neg hc] at h
   exact absurd h hc
 ·rw [dictN_twice hd] at h
  cases h
theorem dictN_bad {P:List Ent} (h:(dictN P).2≠0):(dictN P).1=[]:=by
 by_cases hd:(P.map (·.1)).Nodup
 ·rw [dictN_of hd] at h ⊢
  by_cases hc:checkN (wd (srt P))=0
  ·rw [if_pos hc] at h
   exact absurd rfl h
  ·rw [if_neg hc]
 ·rw [dictN_twice hd]
def lenE (S:List Ent):Nat:=(S.map fun p=>1+p.2.length).sum
theorem len_all:∀ S:List Ent,lenN (allN S)=lenE S
 | []=>rfl
 | p::S=>by
  rw [allN_cons,lenN,lenN,len_all S,lenE,lenE,List.map_cons,List.sum_cons,List.length_singleton]
  omega
theorem wd_len (S:List Ent):(wd S).length=1+lenE S:=by rw [wd,whole_len,len_all]
theorem lenE_perm {S T:List Ent} (h:S.Perm T):lenE S=lenE T:=(h.map _).sum_nat
theorem mem_all:∀ {S:List Ent} {x:List Nd},x∈allN S↔∃ p∈S,x=[nameNd p.1]∨x=p.2
 | [],x=>by simp [allN]
 | p::S,x=>by rw [allN_cons,List.mem_cons,List.mem_cons,mem_all (S:=S)]; simp [or_assoc]
theorem binF_spec {L:List ByteArray} (s:ByteArray) (hL:L.Pairwise ltB):∀ (g i j:Nat),i≤j→j≤L.length→j - i<g→(∀ k,k<i→ltB (L.getD k ⟨#[]⟩) s)→(∀ k,j≤k→k<L.length→¬ ltB (L.getD k ⟨#[]⟩) s)→
  (∀ k,k<binF L s g i j→ltB (L.getD k ⟨#[]⟩) s)∧(∀ k,binF L s g i j≤k→k<L.length→¬ ltB (L.getD k ⟨#[]⟩) s)
 | 0,i,j,_,_,hg,_,_=>by omega
 | g+1,i,j,hij,hj,hg,h1,h2=>by
  have mono:∀ a b,a<b→b<L.length→ltB (L.getD a ⟨#[]⟩) (L.getD b ⟨#[]⟩):=fun a b hab hb=>by
   rw [List.getD_eq_getElem?_getD,List.getElem?_eq_getElem (show a<L.length by omega),List.getD_eq_getElem?_getD,List.getElem?_eq_getElem hb]
   exact List.pairwise_iff_getElem.1 hL a b (by omega) hb hab
  rw [binF]
  split
  ·rename_i hlt
   split
   ·rename_i hc
    rw [cmpN_lt] at hc
    refine binF_spec s hL g _ j (by omega) hj (by omega) (fun k hk=>?_) h2
    rcases Nat.lt_or_ge k ((i+j) / 2) with q | q
    ·exact ltB_trans (mono k _ q (by omega)) hc
    ·obtain rfl:k=(i+j) / 2:=by omega
     exact hc
   ·rename_i hc
    rw [cmpN_lt] at hc
    refine binF_spec s hL g i _ (by omega) (by omega) (by omega) h1 (fun k hk hkl=>?_)
    rcases Nat.lt_or_ge ((i+j) / 2) k with q | q
    ·exact fun h=>hc (ltB_trans (mono _ k q hkl) h)
    ·obtain rfl:k=(i+j) / 2:=by omega
     exact hc
  ·rename_i hlt
   obtain rfl:i=j:=by omega
   exact⟨h1,h2⟩
theorem find_at {L:List ByteArray} (hL:L.Pairwise ltB) {i:Nat} {s:ByteArray} (h:L[i]? = some s):findN L s=i∧foundN L s=true:=by
 obtain⟨hi,hs⟩:=List.getElem?_eq_some_iff.1 h
 obtain⟨h1,h2⟩:=binF_spec s hL (L.length+1) 0 L.length (by omega) (Nat.le_refl _) (by omega) (by omega) (by omega)
 have hgi:L.getD i ⟨#[]⟩=s:=by rw [List.getD_eq_getElem?_getD,h]; rfl
 have hf:findN L s=i:=by
  show binF L s (L.length+1) 0 L.length=i
  rcases Nat.lt_trichotomy (binF L s (L.length+1) 0 L.length) i with q | q | q
  ·exfalso
   have h9:=h2 _ (Nat.le_refl _) (by omega)
   generalize binF L s (L.length+1) 0 L.length=r at q h9
   refine h9 ?_
   rw [List.getD_eq_getElem?_getD,List.getElem?_eq_getElem (show r<L.length by omega),←hs]
   exact List.pairwise_iff_getElem.1 hL _ i (by omega) hi q
  ·exact q
  ·exfalso
   have:=h1 i q
   rw [hgi] at this
   exact ltB_irrefl _ this
 refine⟨hf,?_⟩
 rw [foundN,hf,hgi,(cmpN_zero s s).2 rfl]
 simp [hi]
theorem find_none {L:List ByteArray} {s:ByteArray} (h:s∉L):foundN L s=false:=by
 rw [foundN]
 by_cases hf:findN L s<L.length
 ·have:L.getD (findN L s) ⟨#[]⟩≠s:=fun e=>h (by
   rw [List.getD_eq_getElem?_getD,List.getElem?_eq_getElem hf] at e
   rw [←e]
   exact List.getElem_mem hf)
  have h2:cmpN (L.getD (findN L s) ⟨#[]⟩) s≠0:=fun e=>this ((cmpN_zero _ _).1 e)
  rw [decide_eq_false h2,Bool.and_false]
 ·rw [decide_eq_false hf,Bool.false_and]
theorem pos_get:∀ (S:List Ent) (b i:Nat) (p:Ent),S[i]? = some p→∃ k:Int,(posN b (allN S))[2*i+1]? = some k∧(allN S)[2*i+1]? = some p.2
 | [],b,i,p,h=>by simp at h
 | q::S,b,0,p,h=>by
  simp only [List.getElem?_cons_zero,Option.some.injEq] at h
  subst h
  exact⟨_,rfl,rfl⟩
 | q::S,b,i+1,p,h=>by
  rw [List.getElem?_cons_succ] at h
  rw [allN_cons,posN,posN,show 2*(i+1)+1=2*i+1+1+1 by omega,List.getElem?_cons_succ,List.getElem?_cons_succ,List.getElem?_cons_succ,List.getElem?_cons_succ]
  exact pos_get S _ i p h
theorem up_names {S:List Ent} (h:Up S):(S.map (·.1)).Pairwise ltB:=by rw [List.pairwise_map]; exact h
theorem get_mem {S:List Ent} (hu:Up S) (hc:checkN (wd S)=0) {p:Ent} (hp:p∈S):getN (wd S) p.1=some p.2:=by
 obtain⟨i,hi⟩:=List.getElem?_of_mem hp
 have hn:namesN (wd S)=S.map (·.1):=names_whole hc
 obtain⟨f1,f2⟩:=find_at (up_names hu) (i:=i) (s:=p.1) (by rw [List.getElem?_map,hi]; rfl)
 obtain⟨k,k1,k2⟩:=pos_get S 1 i p hi
 have hw:=congrArg (·[2*i+1]?) (whole_subs (kind:=8) (ls:=allN S) hc)
 rw [List.getElem?_map,k1,k2] at hw
 rw [getN,hn,f1,f2,if_pos rfl]
 have hr:(ndAt (wd S) 0).kids=posN 1 (allN S):=rfl
 rw [hr,List.getD_eq_getElem?_getD,k1]
 exact hw
theorem get_none {S:List Ent} (hc:checkN (wd S)=0) {s:ByteArray} (h:s∉S.map (·.1)):getN (wd S) s=none:=by
 have hn:namesN (wd S)=S.map (·.1):=names_whole hc
 rw [getN,hn,find_none h]
 rfl
def butE (S:List Ent) (s:ByteArray):List Ent:=S.filter fun p=>!(p.1.toList==s.toList)
theorem mem_but {S:List Ent} {s:ByteArray} {p:Ent}:p∈butE S s↔p∈S∧p.1≠s:=by
 rw [butE,List.mem_filter]
 simp only [Bool.not_eq_true',beq_eq_false_iff_ne,ne_eq,tl_inj]
theorem but_nodup {S:List Ent} {s:ByteArray} (h:(S.map (·.1)).Nodup):((butE S s).map (·.1)).Nodup:=
 ((List.filter_sublist (l:=S)).map (·.1)).nodup h
theorem add_nodup {Q:List Ent} {s:ByteArray} {v:List Nd} (h:(Q.map (·.1)).Nodup) (hs:∀ p∈Q,p.1≠s):((Q++[(s,v)]).map (·.1)).Nodup:=by
 rw [List.map_append,List.nodup_append]
 refine⟨h,by simp,fun a ha b hb=>?_⟩
 obtain⟨p,hp,rfl⟩:=List.mem_map.1 ha
 obtain rfl:b=s:=by simpa using hb
 exact hs p hp
theorem firstN_iff:∀ ls:List (List Nd),firstN ls=0↔∀ x∈ls,checkN x=0
 | []=>by simp [firstN]
 | x::r=>by
  rw [firstN]
  by_cases h:checkN x=0
  ·rw [if_pos h,firstN_iff r]; simp [h]
  ·rw [if_neg h]; simp [h]
theorem body_mem:∀ (ls:List (List Nd)) (b:Nat) (x:Nd),x∈bodyN b ls→∃ l∈ls,∃ y∈l,x.s=y.s
 | [],b,x,h=>by cases h
 | l::ls,b,x,h=>by
  rw [bodyN,List.mem_append] at h
  rcases h with h | h
  ·obtain⟨y,hy,rfl⟩:=List.mem_map.1 h
   exact⟨l,by simp,y,hy,rfl⟩
  ·obtain⟨l2,h1,h2⟩:=body_mem ls _ x h
   exact⟨l2,List.mem_cons_of_mem _ h1,h2⟩
theorem whole_lt {kind:Int} {ls:List (List Nd)} (hc:checkN (wholeN kind ls)=0) (h:∀ l∈ls,∀ x∈l,x.s.size≤1000000):Lt (wholeN kind ls):=by
 obtain⟨h0,hn,-⟩:=check_zero hc
 refine⟨by omega,fun x hx=>?_⟩
 rcases List.mem_cons.1 hx with rfl | hx
 ·exact Nat.zero_le _
 ·obtain⟨l,hl,y,hy,he⟩:=body_mem ls 1 x hx
  rw [he]
  exact h l hl y hy
theorem wd_lt {S:List Ent} (hc:checkN (wd S)=0) (h:∀ p∈S,p.1.size≤1000000∧∀ x∈p.2,x.s.size≤1000000):Lt (wd S):=
 whole_lt hc fun l hl x hx=>by
  obtain⟨p,hp,hl⟩:=mem_all.1 hl
  rcases hl with rfl | rfl
  ·obtain rfl:x=nameNd p.1:=by simpa using hx
   exact (h p hp).1
  ·exact (h p hp).2 x hx
theorem back_get {P:List Ent} (hd:(P.map (·.1)).Nodup) (hc:checkN (wd (srt P))=0) {p:Ent} (hp:p∈P):getN (wd (srt P)) p.1=some p.2:=
 get_mem (srt_up hd) hc ((srt_perm P).mem_iff.2 hp)
theorem get_not {P:List Ent} (hc:checkN (wd (srt P))=0) {s:ByteArray} (h:s∉P.map (·.1)):getN (wd (srt P)) s=none:=
 get_none hc (fun hm=>h (((srt_perm P).map (·.1)).mem_iff.1 hm))
end Tr
end Go.Proofs.YtljachhmdogkdaaGreatDoor
