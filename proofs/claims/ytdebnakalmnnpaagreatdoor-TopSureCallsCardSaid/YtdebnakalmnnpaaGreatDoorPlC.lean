/- A field without notices, a program without jobs: valid for both. -/
import Derived.Test.YtdebnakalmnnpaaGreatDoorRgSh
import Derived.Test.YtdebnakalmnnpaaGreatDoorAmPlain
namespace Go.Am.Pl
def wi(n lo hi:Int):Bool:=decide (lo<=n)&&decide (n<=hi)
theorem aEw(n lo hi:Int):kN n lo hi=some (wi n lo hi):=by simp[kN,cB,wi]
theorem bFf(n lo hi:Int):fF n lo hi=some (wi n lo hi):=by simp[fF,cB,wi]
theorem cAx(n lo hi:Int):nD n lo hi=some (wi n lo hi):=by simp[nD,cB,wi]
theorem cAs(n lo hi:Int):iC n lo hi=some (wi n lo hi):=by simp[iC,cB,wi]
def okFd(f:oO):Bool:=wi f.Places 1 32&&wi f.Wilds 0 32&&wi f.Guards 0 32&&wi f.Close 0 9999&&wi f.Freeze f.Close 9999
theorem eCheck0(f:oO):aAg f []=some (bif okFd f then 0 else 50):=by
 unfold aAg aAv;simp only[cAx,cB,Option.bind_some];have e:zR [] (([]:List kY).length:Int) [] BIG 0=some 0:=by rw[aEh];rfl
 rw[e];show(bif !okFd f then _ else _)=_;cases okFd f<;>rfl
theorem dCheck0(f:oO):rN f []=some (bif okFd f then 0 else 50):=by
 unfold rN;simp only[cAs,jO,Option.bind_some];have e:sB [] BIG 0=some 0:=by rw[aEh];rfl
 rw[e];unfold okFd;cases wi f.Places 1 32<;>cases wi f.Wilds 0 32<;>cases wi f.Guards 0 32<;>cases wi f.Close 0 9999<;>cases wi f.Freeze f.Close 9999<;>rfl
theorem bCh(s:bO)(lo hi:Int):tW s lo hi=some (decide (s.Low<=s.High)&&wi s.Low lo hi&&wi s.High lo hi):=by
 simp[tW,aEw,cB]
theorem aMv(l:List bO)(hl:l.length<=9223372036854775807)(f:bO->Option Bool)(g:bO->Bool)(hf:∀x∈l,f x=some (g x)):iL l f=some (l.any g):=by
 have key:jY l f=some (match l.findIdx? g with|some i=>(i:Int)|none=> -1):=by
  unfold jY;rw[fX (S:=Unit) (λk i _=>eP l f l.length k i) l.length (λi _=>some (match(l.drop i).findIdx? g with|some j=>((i+j:Nat):Int)|none=> -1)) (λ_ _=>True) ?_ ?_ BIG () (cC hl) trivial]
  ·simp
  ·intro k i _ hi _ ih;have:=ih () trivial;simp only[eP,bE hi,Option.bind_some,bG (show i<9223372036854775807 by omega),Int.ofNat_lt,hi,decide_true,cond_true,this,hf _ (List.getElem_mem hi)];rw[List.drop_eq_getElem_cons hi,List.findIdx?_cons];cases h:g l[i] with
   |true=>simp
   | false=>
    simp only[cond_false,Bool.false_eq_true,if_false];cases List.findIdx? g (List.drop (i+1) l) with
    |none=>rfl
    |some j=>simp;omega
  ·intro k _ _
   simp[eP,pA]
 unfold iL;rw[key];cases h:List.findIdx? g l with
 | none=>
  simp at h
  have:l.any g=false:=by simpa using h
  simp[this]
 | some j=>
  have:l.any g=true:=by
   obtain⟨h1,h2,_⟩:=List.findIdx?_eq_some_iff_getElem.1 h;simp only[List.any_eq_true];exact⟨_,List.getElem_mem h1,h2⟩
  simp[this]
def vK(s:bO):Bool:=decide (s.Low<=s.High)&&wi s.Low 0 1440&&wi s.High 0 1440
def uY(p:cY)(d:Nat):Bool:=wi ((p.Days.getD d []).length) 1 3&&decide ((p.Days.getD d []).length=(p.Days.getD 0 []).length)&&(p.Days.getD d []).all vK
def valid(p:cY):Bool:=wi p.Days.length 1 3&&wi p.Rest 0 600&&(List.range p.Days.length).all (uY p)
theorem play_Check0(p:cY)(hj:p.Jobs=[])(h1:p.Days.length<=9223372036854775807)(h2:∀d∈p.Days,d.length<=9223372036854775807):wG p=some (bif valid p then 0 else 80):=by
 have jobs:wU p=some 0:=by
  unfold wU;rw[hj,aEh]
  rfl
 have days:wi p.Days.length 1 3=true->nX p.Days p.Days.length p BIG 0=some (bif (List.range p.Days.length).all (uY p) then 0 else 80):=by
  intro hd;have hd0:0<p.Days.length:=by simp[wi] at hd;omega
  rw[kW (λk i=>nX p.Days p.Days.length p k i) p.Days.length (uY p) (some 80) (wU p) ?_ ?_ BIG (cC h1)]
  ·rw[jobs];cases(List.range p.Days.length).all (uY p)<;>rfl
  ·intro k i hi;have hdl:=h2 _ (List.getElem_mem hi);simp only[nX,bE hi,Option.bind_some,bG (show i<9223372036854775807 by omega),Int.ofNat_lt,hi,decide_true,cond_true,aEw,jO,show idx p.Days 0=some p.Days[0] from bE hd0,
    aMv _ hdl (λy=>yZ y) (λs=>!vK s) (λs _=>by simp[yZ,bCh,vK])]
   have e1:p.Days.getD i []=p.Days[i]:=by simp[List.getD,hi]
   have e2:p.Days.getD 0 []=p.Days[0]:=by simp[List.getD,hd0]
   have e3:(p.Days[i].any λs=>!vK s)=!p.Days[i].all vK:=by simp[List.not_all_eq_any_not]
   simp only[uY,e1,e2,e3];have e4:(decide ((p.Days[i].length:Int)=(p.Days[0].length:Int)))=decide (p.Days[i].length=p.Days[0].length):=by simp;omega
   rw[e4];cases wi p.Days[i].length 1 3<;>cases decide (p.Days[i].length=p.Days[0].length)<;>cases p.Days[i].all vK<;>rfl
  ·intro k
   simp[nX]
 unfold wG;simp only[aEw,jO,Option.bind_some];rw[hj];have e5:decide (6<((([]:List bS).length:Nat):Int))=false:=rfl;rw[e5];unfold valid;cases hd:wi p.Days.length 1 3 with
 |false=>simp
 | true=>
  rw[days hd];cases wi p.Rest 0 600<;>simp
theorem ref_Check0(p:cY)(hj:p.Jobs=[])(h1:p.Days.length<=9223372036854775807)(h2:∀d∈p.Days,d.length<=9223372036854775807):rO p=some (bif valid p then 0 else 80):=by
 have jobs:oM p=some 0:=by
  unfold oM;rw[aEh];simp only[sC,hj]
  rfl
 have days:wi p.Days.length 1 3=true->wi (p.Days.getD 0 []).length 1 3=true->dH p BIG 0=some (bif (List.range p.Days.length).all (uY p) then 0 else 80):=by
  intro hd hd1;have hd0:0<p.Days.length:=by simp[wi] at hd;omega
  rw[kW (λk i=>dH p k i) p.Days.length (uY p) (some 80) (oM p) ?_ ?_ BIG (cC h1)]
  ·rw[jobs];cases(List.range p.Days.length).all (uY p)<;>rfl
  ·intro k i hi;have hdl:=h2 _ (List.getElem_mem hi);have e1:p.Days.getD i []=p.Days[i]:=by simp[List.getD,hi]
   have e2:p.Days.getD 0 []=p.Days[0]:=by simp[List.getD,hd0]
   have inner:iA (dH p k) (i:Int) p BIG 0=bif p.Days[i].all vK then dH p k ((i+1:Nat):Int) else some 80:=by
    rw[kW (λk2 c=>iA (dH p k) (i:Int) p k2 c) p.Days[i].length (λc=>vK (p.Days[i].getD c default)) (some 80) (dH p k ((i+1:Nat):Int)) ?_ ?_ BIG (cC hdl)]
    ·have:(List.range p.Days[i].length).all (λc=>vK (p.Days[i].getD c default))=p.Days[i].all vK:=by
      rw[Bool.eq_iff_iff,pQ,List.all_eq_true]
      constructor
      ·intro h x hx;obtain⟨c,hc,e⟩:=List.getElem_of_mem hx;have:=h c hc
       simpa[List.getD,hc,e] using this
      ·intro h c hc
       simpa[List.getD,hc] using h _ (List.getElem_mem hc)
     rw[this]
    ·intro k2 c hc;simp only[iA,bE hi,Option.bind_some,bE hc,bG (show c<9223372036854775807 by omega),Int.ofNat_lt,hc,decide_true,cond_true,jO];have e4:p.Days[i].getD c default=p.Days[i][c]:=by simp[List.getD,hc]
     rw[e4]
     generalize p.Days[i][c]=s
     have:vK s=!(decide (s.Low<0)||decide (s.High<s.Low)||decide (1440<s.High)):=by
      rw[Bool.eq_iff_iff]
      simp[vK,wi]
      omega
     rw[this];cases(decide (s.Low<0)||decide (s.High<s.Low)||decide (1440<s.High))<;>rfl
    ·intro k2
     simp[iA,bE hi,xQ,xP,bG (show i<9223372036854775807 by omega)]
   simp only[dH,bE hi,Option.bind_some,Int.ofNat_lt,hi,decide_true,cond_true,show idx p.Days 0=some p.Days[0] from bE hd0,inner];have e4:(decide ((p.Days[i].length:Int)=(p.Days[0].length:Int)))=decide (p.Days[i].length=p.Days[0].length):=by simp;omega
   rw[e4];simp only[uY,e1,e2]
   by_cases hl:p.Days[i].length=p.Days[0].length
   ·rw[e2] at hd1;simp only[hl,hd1,decide_true];cases p.Days[i].all vK<;>rfl
   ·simp[hl]
  ·intro k
   simp[dH]
 unfold rO;simp only[bFf,Option.bind_some];rw[hj];have e5:decide (6<((([]:List bS).length:Nat):Int))=false:=rfl;rw[e5];cases hd:wi p.Days.length 1 3 with
 |false=>simp[valid,hd]
 | true=>
  have hd0:0<p.Days.length:=by simp[wi] at hd;omega
  have e2:p.Days.getD 0 []=p.Days[0]:=by simp[List.getD,hd0]
  simp only[show idx p.Days 0=some p.Days[0] from bE hd0,Option.bind_some,jO,Bool.not_true,cond_false];unfold valid;rw[hd];cases hd1:wi p.Days[0].length 1 3 with
  | false=>
   have:(List.range p.Days.length).all (uY p)=false:=by
    rw[Bool.eq_false_iff];intro h;have:=pQ.1 h 0 hd0;unfold uY at this;rw[e2,hd1] at this
    simp at this
   simp[this]
  | true=>
   rw[days hd (by rw[e2];exact hd1)];cases wi p.Rest 0 600<;>simp
end Go.Am.Pl
