/- A draw whose matches end one after the other. -/
import Derived.Test.YtammglnfelkbpaaGreatDoorRdPlain1
import Derived.Test.YtammglnfelkbpaaGreatDoorPbBest
namespace Go.Am
section
variable{t:aD}{l:List aA}{d:List Int}(hg:Good t l d){must:List (List Int)}(hM:MustIs t must (eR d (Res l)))
include hg hM
theorem cIl{q c:Nat}(hq:q<t.Rounds.toNat)(hc:c<bM t q)(h:mat must q c≠-2):0<=mat must q c:=by
 obtain⟨a,ha,hv,hn,_⟩:=hg.down ((hM.mem q c _ hq hc).1 ⟨rfl,h⟩);have:=hg.dok.rng a ha
 omega
theorem bMi{p:Nat}(hp:p<bM t 0)(ho:mat must 0 p= -2){i:Nat}(hi:i/2=p):0<=d.getD i 0:=by
 have hD:=hg.dok;have h1:=hg.ht.r1;have hp0:=aEn hg.ht;have hlen:=hD.len;have hopen:∀v,¬eR d (Res l) ⟨((0:Nat):Int),p⟩ v:=λv hv=>by
  have:=(hM.mem 0 p v (by omega) hp).2 hv;exact this.2 (this.1.symm.trans ho)
 have hid:i<d.length:=by omega
 have hr:=hD.rng i hid;refine aA3 λhb=>hopen (d.getD (sib i) 0) (.inl ⟨i,hid,by omega,?_,rfl⟩);rw[aNt];simp[cell,hi]
end
def oN(t:aD)(must:List (List Int)):List (Nat×Nat):=(iE t).filter λx=>decide (mat must x.1 x.2= -2)
theorem qO(t:aD)(d:List Int)(must:List (List Int)):cO t d must=(oN t must).map (iI d must):=by
 unfold cO oN;rw[aBs,List.filter_map]
 rfl
theorem aSc{t:aD}{must:List (List Int)}{x:Nat×Nat}:x∈oN t must↔(x.1<t.Rounds.toNat/\x.2<bM t x.1)/\mat must x.1 x.2= -2:=by
 unfold oN;rw[z6,aEj,l9]
theorem bVi(t:aD):(iE t).Pairwise λx y=>x.1<=y.1:=by
 unfold iE;rw[List.pairwise_flatMap];refine⟨λr _=>?_,?_⟩
 ·rw[List.pairwise_map];exact u0.2 λ_ _ _ _ _=>n5 _
 ·refine List.pairwise_lt_range.imp λ{a b} hab x hx y hy=>?_;obtain⟨_,_,rfl⟩:=l5.1 hx;obtain⟨_,_,rfl⟩:=l5.1 hy;exact Nat.le_of_lt hab
structure TI(t:aD)(S:List Int)(X:List (Nat×Nat))(done:List (Nat×Nat))(sl:List aA):Prop where
 good:Good t sl S
 len:sl.length=done.length
 tab:∃must,cK t sl=some (⟨S,must⟩,true)/\MustIs t must (eR S (Res sl))/\∀r p:Nat,r<t.Rounds.toNat->p<bM t r->(mat must r p= -2↔(r,p)∈X/\(r,p)∉done)
theorem TI.nil{t:aD}{S:List Int}(hg:Good t [] S){must:List (List Int)}(hd:cK t []=some (⟨S,must⟩,true))(hM:MustIs t must (eR S (Res []))):TI t S (oN t must) [] []:=
 ⟨hg,rfl,must,hd,hM,λr p hr hp=>by rw[aSc];simp[hr,hp]⟩
theorem TI.step{t:aD}{S:List Int}{X done:List (Nat×Nat)}{sl:List aA}(h:TI t S X done sl){r p:Nat}(hr:r<t.Rounds.toNat)(hp:p<bM t r)(hX:(r,p)∈X)(hn:(r,p)∉done)(hf:∀s,s<2->0<r->(r-1,2*p+s)∈X->(r-1,2*p+s)∈done)(hl:done.length<60):
  ∃ (b:aG) (l:List aG),pE t sl=some (l,0)/\l.length<=32/\b∈l/\(∀c∈l,c.Round=r->c.Place=p->c=b)/\b.Round=r/\b.Place=p/\(0<=b.One/\b.One<=999)/\(0<=b.Two/\b.Two<=999)/\
   ∀k:Int,1<=k/\k<=4->TI t S X (done++[(r,p)]) (sl++[⟨k,r,p,b.One,0⟩])/\TI t S X (done++[(r,p)]) (sl++[⟨k,r,p,b.Two,0⟩]):=by
 obtain⟨hg,hlen,must,hd,hM,htab⟩:=h;have ho:mat must r p= -2:=(htab r p hr hp).2 ⟨hX,hn⟩;have sides:∀s,s<2->0<=dB S must r (2*p+s):=by
  intro s hs
  by_cases h0:r=0
  ·subst h0;have:dB S must 0 (2*p+s)=S.getD (2*p+s) 0:=by simp[dB]
   rw[this];exact bMi hg hM hp ho (by omega)
  ·have hph:=aFe (t:=t) (r:=r-1) (by omega);rw[show r-1+1=r by omega] at hph;have:dB S must r (2*p+s)=mat must (r-1) (2*p+s):=by unfold dB;rw[if_neg h0]
   rw[this];refine cIl hg hM (by omega) (by omega) λhm=>?_;obtain⟨g1,g2⟩:=(htab (r-1) (2*p+s) (by omega) (by omega)).1 hm;exact g2 (hf s hs (by omega) g1)
 have s1:=sides 0 (by omega);have s2:=sides 1 (by omega);have le9:∀s,s<2->dB S must r (2*p+s)<=999:=λs hs=>by
  obtain⟨a,ha,he,_⟩:=bFe hg hM hr hp hs (sides s hs);rw[<-he];exact hg.le999 ha
 refine⟨iI S must (r,p),aCx t S must,aXp hg hd hM,bSa hg.ht S must,?_,?_,rfl,rfl,⟨s1,le9 0 (by omega)⟩,⟨s2,le9 1 (by omega)⟩,?_⟩
 ·rw[bAc,l5];refine⟨(r,p),z6.2 ⟨aEj.2 ⟨hr,hp⟩,?_⟩,rfl⟩;simp only[bXa,f4,l9];exact⟨ho,s1,s2⟩
 ·intro c hc h1 h2;rw[bAc,l5] at hc;obtain⟨x,_,rfl⟩:=hc;simp only[iI] at h1 h2;have e1:x.1=r:=by omega
  have e2:x.2=p:=by omega
  rw[show x=(r,p) from Prod.ext e1 e2]
 ·intro k hk;have key:∀s,s<2->TI t S X (done++[(r,p)]) (sl++[⟨k,r,p,dB S must r (2*p+s),0⟩]):=by
   intro s hs;obtain⟨hg',_⟩:=bEw hg hM hk hs hr hp ho s1 s2 (by omega);obtain⟨must',hd',hM'⟩:=sN hg';refine⟨hg',by simp[hlen],must',hd',hM',λq c hq hc=>?_⟩;rw[bXb hg hM hk hs hr hp ho s1 s2 (by omega) hM' hq hc];have hs0:=sides s hs
   by_cases e:q=r/\c=p
   ·rw[if_pos e];obtain⟨rfl,rfl⟩:=e
    constructor
    ·intro h;omega
    ·rintro⟨_,h⟩;exact absurd (i6.2 (.inr (l7.2 rfl))) h
   ·rw[if_neg e,htab q c hq hc];have:(q,c)≠(r,p):=λh=>e ⟨aA5 Prod.fst h,aA5 Prod.snd h⟩
    simp[this]
  exact⟨key 0 (by omega),key 1 (by omega)⟩
theorem TI.done{t:aD}{S:List Int}{X done:List (Nat×Nat)}{sl:List aA}(h:TI t S X done sl)(hall:∀x∈X,x∈done){stages:List bR}(hs:(stages.length:Int)=t.Rounds/\stages.all jY=true)(hl:stages.length<=1000):
  tT t sl=some (0,0)/\oW t sl stages=some ([],[],0):=by
 obtain⟨hg,_,must,hd,hM,htab⟩:=h;have hno:∀x∈iE t,¬mat must x.1 x.2= -2:=λx hx hm=>by
  obtain⟨h1,h2⟩:=aEj.1 hx;obtain⟨g1,g2⟩:=(htab x.1 x.2 h1 h2).1 hm;exact g2 (hall _ g1)
 constructor
 ·have:=bDi hg hd hM;have e:aKm t must=0:=by
   unfold aKm;rw[aD5,aD7];intro x hx
   simpa[mU] using hno x hx
  rw[e] at this;exact this
 ·rw [yU hg hd hM stages hl];have e:cO t S must=[]:=by
   rw[qO];have:oN t must=[]:=by
    unfold oN;rw[aD7];intro x hx
    simpa using hno x hx
   rw[this];rfl
  unfold wP;rw[if_pos hs,e]
  rfl
end Go.Am
