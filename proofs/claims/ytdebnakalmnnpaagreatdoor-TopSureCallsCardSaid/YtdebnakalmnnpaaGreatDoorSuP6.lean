/- Registers and points that are the same; desks that are sound. -/
import Derived.Test.YtdebnakalmnnpaaGreatDoorSuP5
import Derived.Test.YtdebnakalmnnpaaGreatDoorSuP2
import Derived.Test.YtdebnakalmnnpaaGreatDoorSuW
namespace Go.Am
set_option maxRecDepth 100000
theorem aQg(l:List Int)(h:l.length<=9223372036854775807):lF l l=some true:=by
 unfold lF;have main:=kW (λk i=>gM l l k i) l.length (λ_=>true) (some false) (some true) ?_ ?_ BIG (cC h)
 ·rw[main,show(List.range l.length).all (λ_=>true)=true by simp];rfl
 ·intro k i hi;simp only[gM,Int.ofNat_lt,hi,decide_true,cond_true,bE hi,Option.bind_some,Bool.not_true,cond_false,bG (show i<9223372036854775807 by omega)]
 ·intro k;simp only[gM,Int.lt_irrefl,decide_false,cond_false,Option.bind_some,tQ,decide_true]
theorem bJk(r:bL)(h1:r.Notices.length<=1000)(h2:r.Slips.length<=1000)(h3:r.Points.length<=1000)(h4:r.Days.length<=1000)(h5:∀x∈r.Days,x.length<=1000):kT r r=some true:=by
 unfold kT;rw[aQg _ (by omega)];simp only[decide_true,Bool.not_true,cond_false,Option.bind_some];have days:cK r r BIG 0=some true:=by
  have main:=kW (λk i=>cK r r k i) r.Days.length (λ_=>true) (some false) (some true) ?_ ?_ BIG (cC (by omega))
  ·rw[main,show(List.range r.Days.length).all (λ_=>true)=true by simp];rfl
  ·intro k i hi;have hd:=h5 _ (List.getElem_mem hi);simp only[cK,Int.ofNat_lt,hi,decide_true,cond_true,bE hi,Option.bind_some,Bool.not_true,cond_false];have inner:=kW (λk2 j=>fC (cK r r k) (i:Int) r r k2 j) (r.Days[i]).length (λ_=>true) (some false) (cK r r k ((i+1:Nat):Int)) ?_ ?_ BIG (cC (by omega))
   ·rw[show(List.range (r.Days[i]).length).all (λ_=>true)=true by simp] at inner;exact inner
   ·intro k2 j hj;simp only[fC,bE hi,Option.bind_some,Int.ofNat_lt,hj,decide_true,cond_true,bE hj,Bool.not_true,cond_false,bG (show j<9223372036854775807 by omega)]
   ·intro k2;simp only[fC,bE hi,Option.bind_some,Int.lt_irrefl,decide_false,cond_false,qK,qJ,bG (show i<9223372036854775807 by omega)]
  ·intro k;simp only[cK,Int.lt_irrefl,decide_false,cond_false,qI]
 have slips:eD r r BIG 0=some true:=by
  have main:=kW (λk i=>eD r r k i) r.Slips.length (λ_=>true) (some false) (some true) ?_ ?_ BIG (cC (by omega))
  ·rw[main,show(List.range r.Slips.length).all (λ_=>true)=true by simp];rfl
  ·intro k i hi;simp only[eD,Int.ofNat_lt,hi,decide_true,cond_true,bE hi,Option.bind_some,Bool.not_true,cond_false,bG (show i<9223372036854775807 by omega)]
  ·intro k;simp only[eD,Int.lt_irrefl,decide_false,cond_false,qH];exact days
 have main:=kW (λk i=>fB r r k i) r.Notices.length (λ_=>true) (some false) (some true) ?_ ?_ BIG (cC (by omega))
 ·rw[main,show(List.range r.Notices.length).all (λ_=>true)=true by simp];rfl
 ·intro k i hi;simp only[fB,Int.ofNat_lt,hi,decide_true,cond_true,bE hi,Option.bind_some,Bool.not_true,cond_false,bG (show i<9223372036854775807 by omega)]
 ·intro k;simp only[fB,Int.lt_irrefl,decide_false,cond_false,qG];exact slips
theorem bVz(d:cT)(h:aKg d):∃b,uQ d []=some b/\(b=false->aIl d):=by
 obtain⟨_,_,_,hD,_,hS⟩:=h;unfold uQ;simp only[jO,cB,Option.bind_some];have e1:decide ((100:Int)<(([]:List Str).length:Int))=false:=rfl;have e2:(decide ((20:Int)<(([]:List Str).length:Int))&&decide ((([]:List Str).length:Int)<=80))=false:=rfl;rw[e1,e2,Bool.or_false,Bool.or_false]
 by_cases hb:(decide ((8:Int)<(d.Tree.Slots.length:Int))||decide ((2:Int)<(d.Days.length:Int))||decide ((10:Int)<(d.Stages.length:Int)))=true
 ·rw[hb,cond_true];exact⟨_,rfl,λh=>by cases h⟩
 ·have hb:=Bool.eq_false_iff.2 hb;rw[hb,cond_false];simp only[Bool.or_eq_false_iff,decide_eq_false_iff_not] at hb;have main:=kW (λk i=>kU [] d k i) d.Days.length (λi=>match d.Days[i]? with|some x=>!decide ((2:Int)<(x.length:Int))|none=>false) (some true) (some false) ?_ ?_ BIG (cC (by omega))
  ·rw[main];cases ha:(List.range d.Days.length).all (λi=>match d.Days[i]? with|some x=>!decide ((2:Int)<(x.length:Int))|none=>false) with
   |false=>exact⟨_,rfl,λh=>by cases h⟩
   | true=>
    refine⟨_,rfl,λ_=>⟨by omega,λx hx=>?_,by omega⟩⟩;obtain⟨i,hi,rfl⟩:=List.getElem_of_mem hx;have:=(pQ.1 ha) i hi;simp only[List.getElem?_eq_getElem hi,Bool.not_eq_true',decide_eq_false_iff_not] at this
    omega
  ·intro k i hi;simp only[kU,Int.ofNat_lt,hi,decide_true,cond_true,bE hi,Option.bind_some,bG (show i<9223372036854775807 by omega),List.getElem?_eq_getElem hi];cases decide ((2:Int)<((d.Days[i]).length:Int))<;>rfl
  ·intro k;simp only[kU,Int.lt_irrefl,decide_false,cond_false,zZ];rw[aEh]
   rfl
theorem bQx(d:cT)(h:aKg d):∃b,uU d []=some b/\(b=true->aIl d/\jF d=some 0):=by
 obtain⟨f,hf,hd⟩:=bVz d h;unfold uU;rw[aX hf];simp only[cB,Option.bind_some];cases f with
 |true=>exact⟨false,rfl,λh=>by cases h⟩
 | false=>
  have hD:=hd rfl;obtain⟨e,he,_⟩:=aUr hD;have e1:decide ((([]:List Str).length:Int)<=10)=true:=rfl;rw[e1,Bool.not_false,Bool.true_and,Bool.and_true];cases decide ((d.Tree.Slots.length:Int)<=4) with
  |false=>exact⟨false,rfl,λh=>by cases h⟩
  | true=>
   rw[cond_true,aX he,Option.bind_some];refine⟨_,rfl,λh=>⟨hD,?_⟩⟩;rw[of_decide_eq_true h] at he;exact he
theorem cGq:mN 0=some [48]:=by kernel_rfl
theorem cGr:mN 1=some [49]:=by kernel_rfl
theorem bVp{w:Int}(hw:w=0\/w=1):((mN w).bind λr33=>aTb ([112,111,105,110,116,32]:Str) r33)=some (ptL w):=by
 rcases hw with rfl|rfl
 ·rw[aX cGq];rfl
 ·rw[aX cGr];rfl
end Go.Am
