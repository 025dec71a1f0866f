/- One more result of a match that is ready: of whatever kind, for either side. -/
import Derived.Test.YtammglnfelkbpaaGreatDoorBbDet
import Derived.Test.YtammglnfelkbpaaGreatDoorBracketCourse1
namespace Go.Am
section
variable{t:aD}{l:List aA}{d:List Int}(hg:Good t l d){must:List (List Int)}(hM:MustIs t must (eR d (Res l)))
include hg hM
theorem bFe{r p s:Nat}(hr:r<t.Rounds.toNat)(hp:p<bM t r)(hs:s<2)(h0:0<=dB d must r (2*p+s)):∃a,a<d.length/\d.getD a 0=dB d must r (2*p+s)/\cell a r=⟨r,p⟩/\∀q,q<r->eR d (Res l) (cell a q) (d.getD a 0):=by
 have hlen:=hg.dok.len
 by_cases hr0:r=0
 ·subst hr0;have hp0:=aEn hg.ht;have hp':p<bM t 0:=hp;refine⟨2*p+s,by omega,by simp[dB],?_,by omega⟩;have:(2*p+s)/2=p:=by omega
  simp[cell,this]
 ·have hph:=aFe (t:=t) (r:=r-1) (by omega);have e:r-1+1=r:=by omega
  rw[e] at hph;have hsd:dB d must r (2*p+s)=mat must (r-1) (2*p+s):=by unfold dB;rw[if_neg hr0]
  rw[hsd] at h0|-;obtain⟨a,ha,hv,hn,hc,_,hall⟩:=hg.down ((hM.mem (r-1) (2*p+s) _ (by omega) (by omega)).1 ⟨rfl,by omega⟩);refine⟨a,ha,hv.symm,?_,λq hq=>by rw[<-hv];exact hall q (by omega)⟩;have hcp:a/2^r=2*p+s:=by
   simp only[cell,aB.mk.injEq] at hc;rw[e] at hc;exact Int.ofNat_inj.1 hc.2
  have:a/2^(r+1)=p:=by
   have h2:a/2^(r+1)=a/2^r/2:=by rw[aH7,Nat.div_div_eq_div_mul]
   rw[h2,hcp];omega
  simp only[cell,this]
theorem bEw{k:Int}(hk:1<=k/\k<=4){r p s:Nat}(hs2:s<2)(hr:r<t.Rounds.toNat)(hp:p<bM t r)(ho:mat must r p= -2)(h1:0<=dB d must r (2*p))(h2:0<=dB d must r (2*p+1))(hl:l.length<60):
  Good t (l++[⟨k,r,p,dB d must r (2*p+s),0⟩]) d/\∀m v,eR d (Res (l++[⟨k,r,p,dB d must r (2*p+s),0⟩])) m v↔eR d (Res l) m v\/(m=⟨r,p⟩/\v=dB d must r (2*p+s)):=by
 have hlen:=hg.dok.len;have h0:0<=dB d must r (2*p+s):=by
  rcases(show s=0\/s=1 by omega) with rfl|rfl
  ·exact h1
  ·exact h2
 have hopen:∀v,¬eR d (Res l) ⟨r,p⟩ v:=λv hv=>by
  have:=(hM.mem r p v hr hp).2 hv;exact this.2 (this.1.symm.trans ho)
 obtain⟨a,ha,he,hc,hall⟩:=bFe hg hM hr hp hs2 h0;have ha9:=hg.le999 ha;have hpa:p=a/2^(r+1):=by simp only[cell,aB.mk.injEq] at hc;exact(Int.ofNat_inj.1 hc.2).symm
 have hbye:¬(r=0/\bBp t p=true):=by
  rintro⟨rfl,hb⟩;have hp0:=aEn hg.ht;have hp':p<bM t 0:=hp;simp only[dB,aF2] at h1 h2;unfold bBp at hb;rw[aC8,l9,l9,<-hg.dok.bye (2*p) (by omega),<-hg.dok.bye (2*p+1) (by omega)] at hb
  omega
 have hs:fG t ⟨k,r,p,dB d must r (2*p+s),0⟩=true:=by
  have:=bYc hg.ht (a:=a) (k:=r) (n:=dB d must r (2*p+s)) (hlen▸ha) hr h0 (by omega) (by rw[<-hpa];exact hbye);rw[<-hpa] at this;have hw:wi k 1 4=true:=kS.2 hk;have hk5:¬k=5:=by omega
  simp only[fG,show((1:Int)=5)=False by simp,aB8,show wi 1 1 4=true by decide,w9] at this;simp only[fG,hk5,aB8,hw,w9];exact this
 have hx:(⟨k,r,p,dB d must r (2*p+s),0⟩:aA).Kind≠5:=by simp only;omega
 have hco:vK (eR d (Res l)) (clm d a r):=by
  rintro m v w hP ⟨rfl,q,hq,rfl⟩
  by_cases hqr:q=r
  ·subst hqr;rw[hc] at hP;exact absurd hP (hopen v)
  ·exact hg.fn _ _ _ hP (hall q (by omega))
 refine⟨hg.add hx hs hl ha he hc hco λy hy k5 e1 e2=>?_,λm v=>(aIp hg hx hs ha he m v).trans ?_⟩
 ·obtain⟨c,hc',e3,e4⟩:=hg.agr.2.slot y ⟨hy,k5⟩;refine absurd (.inr ⟨y,⟨hy,k5⟩,c,hc',e3,rfl,y.Round.toNat,n5 _,?_⟩) (hopen (d.getD c 0));rw[e4,e1,e2]
 ·constructor
  ·rintro(h|⟨rfl,q,hq,rfl⟩)
   ·exact .inl h
   ·by_cases hqr:q=r
    ·exact .inr ⟨by rw[hqr];exact hc,he⟩
    ·have hq':q<r:=by
      have:q<=r:=hq
      omega
     exact .inl (hall q hq')
  ·rintro(h|⟨rfl,rfl⟩)
   ·exact .inl h
   ·exact .inr ⟨he.symm,r,n5 _,hc.symm⟩
theorem bXb{k:Int}(hk:1<=k/\k<=4){r p s:Nat}(hs2:s<2)(hr:r<t.Rounds.toNat)(hp:p<bM t r)(ho:mat must r p= -2)(h1:0<=dB d must r (2*p))(h2:0<=dB d must r (2*p+1))(hl:l.length<60)
  {must':List (List Int)}(hM':MustIs t must' (eR d (Res (l++[⟨k,r,p,dB d must r (2*p+s),0⟩])))){q c:Nat}(hq:q<t.Rounds.toNat)(hc:c<bM t q):
  mat must' q c=if q=r/\c=p then dB d must r (2*p+s) else mat must q c:=by
 obtain⟨_,hC⟩:=bEw hg hM hk hs2 hr hp ho h1 h2 hl;have h0:0<=dB d must r (2*p+s):=by
  rcases(show s=0\/s=1 by omega) with rfl|rfl
  ·exact h1
  ·exact h2
 by_cases e:q=r/\c=p
 ·rw[if_pos e];obtain⟨rfl,rfl⟩:=e;exact((hM'.mem q c _ hq hc).2 ((hC _ _).2 (.inr ⟨rfl,rfl⟩))).1
 ·rw[if_neg e]
  by_cases hm:mat must q c= -2
  ·rw[hm];refine aA3 λhn=>?_
   rcases(hC _ _).1 ((hM'.mem q c _ hq hc).1 ⟨rfl,hn⟩) with h|⟨h,_⟩
   ·have:=(hM.mem q c _ hq hc).2 h;exact this.2 (this.1.symm.trans hm)
   ·simp only[aB.mk.injEq] at h;exact e ⟨by omega,by omega⟩
  ·exact((hM'.mem q c _ hq hc).2 ((hC _ _).2 (.inl ((hM.mem q c _ hq hc).1 ⟨rfl,hm⟩)))).1
end
end Go.Am
