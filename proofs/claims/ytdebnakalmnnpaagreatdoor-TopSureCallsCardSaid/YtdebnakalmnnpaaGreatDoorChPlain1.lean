/- Matches by points: what the program and the reference make of one point. -/
import Derived.Test.YtdebnakalmnnpaaGreatDoorRgSh
import Derived.Test.YtdebnakalmnnpaaGreatDoorAmPlain
namespace Go.Am
theorem aX{α β:Type}{A:Option α}{x:α}(h:A=some x)(f:α->Option β):A.bind f=f x:=by subst h;rfl
def small(n:Nat)(p:aJ):Prop:=(0<=p.A/\p.A<=n)/\0<=p.B/\p.B<=n
theorem small.up{n k:Nat}{p:aJ}(h:small n p)(hk:n<=k):small k p:=by unfold small at*;omega
theorem aMn(n:Nat):small n ⟨0,0⟩:=by unfold small;simp
def bV(p:aJ)(s:Int):aJ:=bif decide (s=0) then⟨p.A+1,p.B⟩ else⟨p.A,p.B+1⟩
theorem aFq{n:Nat}{p:aJ}(h:small n p)(s:Int):small (n+1) (bV p s):=by
 unfold small bV at*;cases decide (s=0)<;>simp<;>omega
theorem aSr{n:Nat}{p:aJ}(h:small n p)(hn:n<=100000)(s:Int):vP p s=some (bV p s):=by
 unfold small at h;unfold vP bV;rw[cG (n:=p.A+1) (by omega) (by omega),cG (n:=p.B+1) (by omega) (by omega)];cases decide (s=0)<;>rfl
def lead(p:aJ)(least:Int):Int:=bif decide (least<=p.A)&&decide (p.B+2<=p.A) then 0 else bif decide (least<=p.B)&&decide (p.A+2<=p.B) then 1 else-1
theorem wD(p:aJ)(least:Int):(lead p least=0/\least<=p.A/\p.B+2<=p.A)\/(lead p least=1/\least<=p.B/\p.A+2<=p.B)\/(lead p least= -1/\¬(least<=p.A/\p.B+2<=p.A)/\¬(least<=p.B/\p.A+2<=p.B)):=by
 unfold lead
 by_cases h1:least<=p.A/\p.B+2<=p.A
 ·exact .inl ⟨by rw[decide_eq_true h1.1,decide_eq_true h1.2];rfl,h1⟩
 ·have e1:(decide (least<=p.A)&&decide (p.B+2<=p.A))=false:=by rw[<-Bool.decide_and];exact decide_eq_false h1
  rw[e1]
  by_cases h2:least<=p.B/\p.A+2<=p.B
  ·exact .inr (.inl ⟨by rw[decide_eq_true h2.1,decide_eq_true h2.2];rfl,h2⟩)
  ·have e2:(decide (least<=p.B)&&decide (p.A+2<=p.B))=false:=by rw[<-Bool.decide_and];exact decide_eq_false h2
   rw[e2];exact .inr (.inr ⟨rfl,h1,h2⟩)
theorem bMv{n:Nat}{p:aJ}(h:small n p)(hn:n<=100000)(least b:Int):mW p least b=some (bif decide (least<=p.A)&&decide (b<=p.A-p.B) then 0 else bif decide (least<=p.B)&&decide (b<=p.B-p.A) then 1 else-1):=by
 unfold small at h;unfold mW;rw[cG (n:=p.A-p.B) (by omega) (by omega),cG (n:=p.B-p.A) (by omega) (by omega),cB,Option.bind_some,cB,Option.bind_some];cases decide (least<=p.A)&&decide (b<=p.A-p.B)<;>cases decide (least<=p.B)&&decide (b<=p.B-p.A)<;>rfl
theorem aRx{n:Nat}{p:aJ}(h:small n p)(hn:n<=100000)(least:Int):mW p least 2=some (lead p least):=by
 rw[bMv h hn];have e1:decide (2<=p.A-p.B)=decide (p.B+2<=p.A):=by rw[decide_eq_decide];omega
 have e2:decide (2<=p.B-p.A)=decide (p.A+2<=p.B):=by rw[decide_eq_decide];omega
 rw[e1,e2];rfl
def qO(f:bU)(tie:Bool)(to:Int)(p:aJ):Int:=bif tie then lead p to else bif f.NoAd then(bif decide (4<=p.A) then 0 else bif decide (4<=p.B) then 1 else-1) else lead p 4
theorem aPq(f:bU)(tie:Bool)(to:Int)(p:aJ):qO f tie to p=0\/qO f tie to p=1\/qO f tie to p= -1:=by
 unfold qO;cases tie with
 |true=>rcases wD p to with h|h|h<;>simp[h.1]
 | false=>cases f.NoAd with
  |true=>cases decide (4<=p.A)<;>cases decide (4<=p.B)<;>simp
  |false=>rcases wD p 4 with h|h|h<;>simp[h.1]
theorem bRa(f:bU)(tie:Bool)(to:Int):qO f tie to ⟨0,0⟩= -1:=by
 have h:∀x,lead ⟨0,0⟩ x= -1:=λx=>by rcases wD ⟨0,0⟩ x with h|h|h<;>simp_all
 unfold qO;rw[h,h];cases tie<;>cases f.NoAd<;>rfl
theorem bSq{f:bU}{n:Nat}{p:aJ}(h:small n p)(hn:n<=100000){tie:Bool}(t to:Int)(h3:tie=false->f.NoAd=true->p.A<=3\/p.B<=3):oX ⟨f⟩ ⟨t,to⟩ tie p=some (qO f tie to p):=by
 unfold oX qO;cases tie with
 |true=>rw[cond_true,aRx h hn];rfl
 | false=>
  rw[cond_false];cases hA:f.NoAd with
  |false=>rw[cond_false,aRx h hn];rfl
  | true=>
   rw[cond_true,bMv h hn,Option.bind_some];have e1:(decide (4<=p.A)&&decide (1<=p.A-p.B))=decide (4<=p.A):=by
    rw[<-Bool.decide_and,decide_eq_decide];have:=h3 rfl hA;omega
   have e2:(decide (4<=p.B)&&decide (1<=p.B-p.A))=decide (4<=p.B):=by
    rw[<-Bool.decide_and,decide_eq_decide];have:=h3 rfl hA;omega
   rw[e1,e2];rfl
theorem cFy{f:bU}{to:Int}{p:aJ}(h:qO f false to p= -1)(hA:f.NoAd=true)(s:Int):(bV p s).A<=3\/(bV p s).B<=3:=by
 have h4:p.A<=3/\p.B<=3:=by
  unfold qO at h;rw[cond_false,hA,cond_true] at h
  by_cases h1:4<=p.A
  ·rw[decide_eq_true h1] at h;cases h
  ·rw[decide_eq_false h1] at h
   by_cases h2:4<=p.B
   ·rw[decide_eq_true h2] at h;cases h
   ·omega
 unfold bV;cases decide (s=0)<;>simp<;>omega
def fL(l:List aJ):aJ:=l.foldl (λp g=>bif decide (g.B<g.A) then⟨p.A+1,p.B⟩ else⟨p.A,p.B+1⟩) ⟨0,0⟩
theorem aKt(l:List aJ)(g:aJ):fL (l++[g])=bif decide (g.B<g.A) then⟨(fL l).A+1,(fL l).B⟩ else⟨(fL l).A,(fL l).B+1⟩:=by
 unfold fL;rw[List.foldl_append];rfl
theorem bRb(l:List aJ):small l.length (fL l):=by
 have key:∀n (l:List aJ),l.length=n->small n (fL l):=by
  intro n
  induction n with
  |zero=>intro l hl;rw[List.eq_nil_of_length_eq_zero hl];exact aMn 0
  | succ n ih=>
   intro l hl;obtain⟨l',g,rfl⟩:∃l' g,l=l'++[g]:=⟨l.dropLast,l.getLast (by intro e;simp[e] at hl),(List.dropLast_concat_getLast _).symm⟩;have:=ih l' (by simpa using hl);rw[aKt];unfold small at*;cases decide (g.B<g.A)<;>simp<;>omega
 exact key _ l rfl
def sF(f:bU)(won:aJ):Int×Int:=bif decide (won.A=f.Sets-1)&&decide (won.B=f.Sets-1) then(f.LastTie,f.LastTo) else(f.Tie,f.To)
def zJ(f:bU)(won g:aJ):Bool:=decide (g.A=(sF f won).1)&&decide (g.B=(sF f won).1)
def okF(f:bU):Prop:=(1<=f.Sets/\f.Sets<=3)/\1<=f.Games/\f.Games<=8
theorem bJp{f:bU}(hf:okF f)(won:aJ):nM ⟨f⟩ won=some ⟨(sF f won).1,(sF f won).2⟩:=by
 unfold okF at hf;unfold nM sF;simp only[cG (n:=f.Sets-1) (by omega) (by omega),cB,Option.bind_some];cases decide (won.A=f.Sets-1)&&decide (won.B=f.Sets-1)<;>rfl
theorem bKr{f:bU}(won g:aJ):rU ⟨(sF f won).1,(sF f won).2⟩ g=some (zJ f won g):=by
 unfold rU zJ;rw[cB];rfl
theorem bHd(r:iB)(n:Int):∃b,qB r n=some b:=by
 unfold qB
 by_cases h:r.Format.Then=0
 ·have h0:decide (0<r.Format.Then)=false:=decide_eq_false (by omega);rw[h0];cases decide (0<r.Format.First)<;>cases decide (w64 (n-r.Format.First)=0)<;>cases decide (0<w64 (n-r.Format.First))<;>exact⟨_,rfl⟩
 ·have hc:chk (!decide (r.Format.Then=0))=some ():=by rw[decide_eq_false h];rfl
  rw[hc];cases decide (0<r.Format.First)<;>cases decide (w64 (n-r.Format.First)=0)<;>cases decide (0<w64 (n-r.Format.First))<;>cases decide (0<r.Format.Then)<;>exact⟨_,rfl⟩
theorem aGk{m:aN}(h1:1<=m.ties.length)(hb:m.ties.length<=100001)(p:Int):∃s,gJ m p=some s:=by
 have e:w64 ((m.ties.length:Int)-1)=((m.ties.length-1:Nat):Int):=aFh (by omega) (by omega);unfold gJ gI;rw[Option.bind_some,e,aX (bE (show m.ties.length-1<m.ties.length by omega))];cases m.ties[m.ties.length-1]<;>cases m.rules.Format.Doubles<;>exact⟨_,rfl⟩
theorem bHp{m:aN}(h1:1<=m.ties.length)(hb:m.ties.length<=100001):∃b,nT m=some b:=by
 have e:w64 ((m.ties.length:Int)-1)=((m.ties.length-1:Nat):Int):=aFh (by omega) (by omega);unfold nT gI;obtain⟨b,hb1⟩:=bHd m.rules ((m.ties.length-1:Nat):Int);obtain⟨b2,hb2⟩:=bHd m.rules (w64 (((m.ties.length-1:Nat):Int)-2));rw[Option.bind_some,e,aX (bE (show m.ties.length-1<m.ties.length by omega)),hb1,hb2]
 by_cases h2:2<=((m.ties.length-1:Nat):Int)
 ·have e2:w64 (((m.ties.length-1:Nat):Int)-2)=((m.ties.length-3:Nat):Int):=by rw[cG (by omega) (by omega)];omega
  rw[decide_eq_true h2,e2,bE (show m.ties.length-3<m.ties.length by omega)];cases m.ties[m.ties.length-1]<;>cases b<;>cases m.ties[m.ties.length-3]<;>cases b2<;>exact⟨_,rfl⟩
 ·rw[decide_eq_false h2];cases m.ties[m.ties.length-1]<;>cases b<;>exact⟨_,rfl⟩
theorem bDx{f:bU}(hf:okF f){m:aN}(hr:m.rules=⟨f⟩)(hw:m.Score.Winner= -1)(hb:m.ties.length<=100000):
  ∃m',dN m=some m'/\m'.rules=m.rules/\m'.Score.Board=m.Score.Board/\m'.Score.Winner= -1/\m'.won=m.won/\m'.ties=m.ties++[zJ f m.won m.Score.Board.Games]/\m'.games=m.games:=by
 unfold dN;have h0:decide (0<=m.Score.Winner)=false:=decide_eq_false (by omega);have hset:=bJp hf m.won;rw[<-hr] at hset;rw[h0,cond_false,aX hset,aX (bKr _ _),aX (eL (by simp;omega))];obtain⟨b,hfr⟩:=bHp (m:=⟨m.rules,m.Score,m.first,m.won,m.ties++[zJ f m.won m.Score.Board.Games],m.games⟩) (by simp) (by simp;omega);rw[aX hfr];cases b with
 | true=>
  obtain⟨s,hs⟩:=aGk (m:=⟨m.rules,⟨m.Score.Board,m.Score.Server,m.Score.Ends,w64 (m.Score.Balls+1),m.Score.Winner⟩,m.first,m.won,m.ties++[zJ f m.won m.Score.Board.Games],m.games⟩) (by simp) (by simp;omega) 0;rw[cond_true,aX hs];exact⟨_,rfl,rfl,rfl,hw,rfl,rfl,rfl⟩
 | false=>
  obtain⟨s,hs⟩:=aGk (m:=⟨m.rules,m.Score,m.first,m.won,m.ties++[zJ f m.won m.Score.Board.Games],m.games⟩) (by simp) (by simp;omega) 0;rw[cond_false,aX hs];exact⟨_,rfl,rfl,rfl,hw,rfl,rfl,rfl⟩
theorem bTl{m:aN}(hw:0<=m.Score.Winner):∃m',dN m=some m'/\m'.Score.Winner=m.Score.Winner:=by
 unfold dN;rw[decide_eq_true hw];exact⟨_,rfl,rfl⟩
end Go.Am
