/- Matches by points: one point, both ways; then all of them. -/
import Derived.Test.YtdebnakalmnnpaaGreatDoorChPlain1
namespace Go.Am
def zV(f:bU)(tb:Bool)(g:aJ):Bool:=tb||decide (0<=lead g f.Games)
def vL(f:bU)(w:aJ):Bool:=decide (w.A=f.Sets)||decide (w.B=f.Sets)
def aDf(f:bU)(b:cX)(tb:Bool)(to s:Int):cX×Int:=
 bif decide (qO f tb to (bV b.Points s)<0) then(⟨b.Sets,b.Games,bV b.Points s⟩,-1)
 else bif zV f tb (bV b.Games (qO f tb to (bV b.Points s))) then
  (bif vL f (fL (b.Sets++[bV b.Games (qO f tb to (bV b.Points s))])) then(⟨b.Sets++[bV b.Games (qO f tb to (bV b.Points s))],⟨0,0⟩,⟨0,0⟩⟩,qO f tb to (bV b.Points s))
   else(⟨b.Sets++[bV b.Games (qO f tb to (bV b.Points s))],⟨0,0⟩,⟨0,0⟩⟩,-1))
 else(⟨b.Sets,bV b.Games (qO f tb to (bV b.Points s)),⟨0,0⟩⟩,-1)
structure BI(f:bU)(i:Nat)(b:cX):Prop where
 sets:b.Sets.length<=i
 games:small i b.Games
 points:small i b.Points
 lead:lead b.Games f.Games= -1
 op:qO f (zJ f (fL b.Sets) b.Games) (sF f (fL b.Sets)).2 b.Points= -1
 wa:(fL b.Sets).A<f.Sets
 wb:(fL b.Sets).B<f.Sets
theorem bZk(x:Int):lead ⟨0,0⟩ x= -1:=by
 rcases wD ⟨0,0⟩ x with h|h|h<;>simp_all
section
variable{f:bU}(hf:okF f){i:Nat}{b:cX}(h:BI f i b)(hi:i<=10000){tb:Bool}(htb:tb=zJ f (fL b.Sets) b.Games){to:Int}(hto:to=(sF f (fL b.Sets)).2)(s:Int)
include h htb hto
theorem cAd(hn:(aDf f b tb to s).2= -1):BI f (i+1) (aDf f b tb to s).1:=by
 unfold aDf at*;have hw:=aPq f tb to (bV b.Points s)
 generalize hwe:qO f tb to (bV b.Points s)=w at*
 by_cases h0:w<0
 ·rw[decide_eq_true h0,cond_true];refine⟨Nat.le_succ_of_le h.sets,h.games.up (by omega),aFq h.points s,h.lead,?_,h.wa,h.wb⟩;show qO f (zJ f (fL b.Sets) b.Games) (sF f (fL b.Sets)).2 (bV b.Points s)= -1;rw[<-htb,<-hto,hwe];omega
 ·rw [decide_eq_false h0,cond_false] at hn|-;cases hso:zV f tb (bV b.Games w) with
  | false=>
   rw[cond_false];refine⟨Nat.le_succ_of_le h.sets,aFq h.games w,aMn _,?_,bRa _ _ _,h.wa,h.wb⟩;unfold zV at hso;rw[Bool.or_eq_false_iff] at hso;have:=of_decide_eq_false hso.2;show lead (bV b.Games w) f.Games= -1
   rcases wD (bV b.Games w) f.Games with h1|h1|h1
   ·rw[h1.1] at this;omega
   ·rw[h1.1] at this;omega
   ·exact h1.1
  | true=>
   rw[hso,cond_true] at hn;rw[cond_true];cases hmo:vL f (fL (b.Sets++[bV b.Games w])) with
   |true=>rw[hmo,cond_true] at hn;exfalso;simp only at hn;omega
   | false=>
    rw[cond_false];unfold vL at hmo;rw[Bool.or_eq_false_iff] at hmo;have m1:=of_decide_eq_false hmo.1;have m2:=of_decide_eq_false hmo.2;have ha:=h.wa;have hb:=h.wb;refine⟨by simp;exact h.sets,aMn _,aMn _,bZk _,bRa _ _ _,?_,?_⟩
    ·show(fL (b.Sets++[bV b.Games w])).A<f.Sets;rw[aKt] at m1|-;cases hd:decide ((bV b.Games w).B<(bV b.Games w).A)<;>rw[hd] at m1<;>simp at m1⊢<;>omega
    ·show(fL (b.Sets++[bV b.Games w])).B<f.Sets;rw[aKt] at m2|-;cases hd:decide ((bV b.Games w).B<(bV b.Games w).A)<;>rw[hd] at m2<;>simp at m2⊢<;>omega
omit hto in
theorem bJr{w:Int}(hw:w=0\/w=1)(hso:zV f tb (bV b.Games w)=true):fL (b.Sets++[bV b.Games w])=bV (fL b.Sets) w:=by
 rw [aKt];have hl:=h.lead;have key:decide ((bV b.Games w).B<(bV b.Games w).A)=decide (w=0):=by
  rw[decide_eq_decide];unfold zV at hso;rw[Bool.or_eq_true,decide_eq_true_eq] at hso
  rcases wD b.Games f.Games with g|g|⟨_,g1,g2⟩
  ·omega
  ·omega
  ·rcases hso with hso|hso
   ·rw[htb] at hso;unfold zJ at hso;rw[Bool.and_eq_true,decide_eq_true_eq,decide_eq_true_eq] at hso
    rcases hw with rfl|rfl<;>simp[bV]<;>omega
   ·rcases wD (bV b.Games w) f.Games with g|g|g
    ·rcases hw with rfl|rfl<;>simp[bV] at g⊢<;>omega
    ·rcases hw with rfl|rfl<;>simp[bV] at g⊢<;>omega
    ·omega
 rw[key];rfl
omit hto in
theorem bWu{w:Int}(hw:w=0\/w=1)(hso:zV f tb (bV b.Games w)=true):decide (max (bV (fL b.Sets) w).A (bV (fL b.Sets) w).B=f.Sets)=vL f (fL (b.Sets++[bV b.Games w])):=by
 rw[bJr h htb hw hso];unfold vL;have ha:=h.wa;have hb:=h.wb;rw[Bool.eq_iff_iff,Bool.or_eq_true,decide_eq_true_eq,decide_eq_true_eq,decide_eq_true_eq]
 rcases hw with rfl|rfl<;>simp[bV]<;>omega
end
structure PI(f:bU)(i:Nat)(m:aN):Prop where
 rules:m.rules=⟨f⟩
 bi:BI f i m.Score.Board
 win:m.Score.Winner= -1
 won:m.won=fL m.Score.Board.Sets
 tl:m.ties.length=m.games.length+1
 gi:m.games.length<=i
 last:m.ties[m.ties.length-1]?=some (zJ f m.won m.Score.Board.Games)
theorem bSw(l:List Bool)(x:Bool):(l++[x])[(l++[x]).length-1]?=some x:=by simp
theorem bQb{f:bU}(hf:okF f){i:Nat}{m:aN}(h:PI f i m)(hi:i<=10000){s:Int}(hs:s=0\/s=1):
  ∃m',nU m s=some m'/\m'.Score.Winner=(aDf f m.Score.Board (zJ f (fL m.Score.Board.Sets) m.Score.Board.Games) (sF f (fL m.Score.Board.Sets)).2 s).2/\((aDf f m.Score.Board (zJ f (fL m.Score.Board.Sets) m.Score.Board.Games) (sF f (fL m.Score.Board.Sets)).2 s).2= -1->m'.Score.Board=(aDf f m.Score.Board (zJ f (fL m.Score.Board.Sets) m.Score.Board.Games) (sF f (fL m.Score.Board.Sets)).2 s).1/\PI f (i+1) m'):=by
 have hbi:=h.bi;have tl:=h.tl;have gi:=h.gi;have hne:=λhn=>cAd (s:=s) hbi rfl rfl hn;have hmax:=λ{w:Int}=>bWu (w:=w) hbi rfl;have hsw:=λ{w:Int}=>bJr (w:=w) hbi rfl;have hset:nM m.rules m.won=some ⟨(sF f (fL m.Score.Board.Sets)).1,(sF f (fL m.Score.Board.Sets)).2⟩:=by rw[h.rules,h.won];exact bJp hf _
 have hnum:gI m=some ((m.ties.length-1:Nat):Int):=by unfold gI;rw[aFh (by omega) (by omega)]
 have hix:idx m.ties ((m.ties.length-1:Nat):Int)=some (zJ f (fL m.Score.Board.Sets) m.Score.Board.Games):=by
  have:=h.last;rw[List.getElem?_eq_getElem (show m.ties.length-1<m.ties.length by omega),h.won] at this;rw[bE (show m.ties.length-1<m.ties.length by omega),this]
 have hsets:=hbi.sets;obtain⟨tb,htb⟩:∃tb,tb=zJ f (fL m.Score.Board.Sets) m.Score.Board.Games:=⟨_,rfl⟩;obtain⟨to,hto⟩:∃to,to=(sF f (fL m.Score.Board.Sets)).2:=⟨_,rfl⟩;obtain⟨t,ht⟩:∃t,t=(sF f (fL m.Score.Board.Sets)).1:=⟨_,rfl⟩;rw[<-htb] at hne hmax hsw|-;rw[<-hto] at hne|-;rw[<-htb] at hix;rw[<-hto,<-ht] at hset;have hadd:=aSr hbi.points (by omega) s;have hgame:oX m.rules ⟨t,to⟩ tb (bV m.Score.Board.Points s)=some (qO f tb to (bV m.Score.Board.Points s)):=by
  rw[h.rules];refine bSq (aFq hbi.points s) (by omega) t to λh1 h2=>?_;have ho:=hbi.op;rw[<-htb,h1] at ho;exact cFy ho h2 s
 have hwc:=aPq f tb to (bV m.Score.Board.Points s);unfold aDf at*;unfold nU;rw[aX hset,aX hnum,aX hix,aX hadd];unfold zH;rw[Option.bind_some,aX hgame]
 generalize qO f tb to (bV m.Score.Board.Points s)=w at*
 generalize bV m.Score.Board.Points s=p' at*
 by_cases h0:w<0
 ·rw[decide_eq_true h0,cond_true] at hne|-;rw[cond_true];have hin:∃c,(bif tb then(some (decide ((w64 (p'.A+p'.B)).tmod 6=0))) else(some false))=some c:=by cases tb<;>exact⟨_,rfl⟩
  obtain⟨c,hc⟩:=hin;rw[aX hc];have fin:∀e sv,∃m',some (aN.mk m.rules (cP.mk (cX.mk m.Score.Board.Sets m.Score.Board.Games p') sv e m.Score.Balls m.Score.Winner) m.first m.won m.ties m.games)=some m'/\m'.Score.Winner= -1/\((-1:Int)= -1->m'.Score.Board=⟨m.Score.Board.Sets,m.Score.Board.Games,p'⟩/\PI f (i+1) m'):=λe sv=>
   ⟨_,rfl,h.win,λ_=>⟨rfl,h.rules,hne rfl,h.win,h.won,h.tl,Nat.le_succ_of_le h.gi,h.last⟩⟩
  cases c with
  | true=>
   obtain⟨sv,hsv⟩:=aGk (m:=⟨m.rules,⟨⟨m.Score.Board.Sets,m.Score.Board.Games,p'⟩,m.Score.Server,w64 (m.Score.Ends+1),m.Score.Balls,m.Score.Winner⟩,m.first,m.won,m.ties,m.games⟩) (by simp;omega) (by simp;omega) (w64 (p'.A+p'.B));rw[cond_true,aX hsv];exact fin _ _
  | false=>
   obtain⟨sv,hsv⟩:=aGk (m:=⟨m.rules,⟨⟨m.Score.Board.Sets,m.Score.Board.Games,p'⟩,m.Score.Server,m.Score.Ends,m.Score.Balls,m.Score.Winner⟩,m.first,m.won,m.ties,m.games⟩) (by simp;omega) (by simp;omega) (w64 (p'.A+p'.B));rw[cond_false,aX hsv];exact fin _ _
 ·have hw01:w=0\/w=1:=by omega
  rw[decide_eq_false h0,cond_false] at hne|-;rw[cond_false];obtain⟨sv,hsv⟩:=aGk (m:=⟨m.rules,⟨⟨m.Score.Board.Sets,m.Score.Board.Games,p'⟩,m.Score.Server,m.Score.Ends,m.Score.Balls,m.Score.Winner⟩,m.first,m.won,m.ties,m.games⟩) (by simp;omega) (by simp;omega) 0;obtain⟨fr,hfr⟩:=bHp (m:=⟨m.rules,⟨⟨m.Score.Board.Sets,m.Score.Board.Games,p'⟩,m.Score.Server,m.Score.Ends,m.Score.Balls,m.Score.Winner⟩,m.first,m.won,m.ties,m.games⟩) (by simp;omega) (by simp;omega);have hg:=aSr hbi.games (by omega) w;have hl:mW (bV m.Score.Board.Games w) m.rules.Format.Games 2=some (lead (bV m.Score.Board.Games w) f.Games):=by rw[h.rules];exact aRx (aFq hbi.games w) (by omega) _
  rw[aX hsv,aX hfr,aX (eL (by simp;omega)),aX hg,hl,Option.bind_some,jO,Option.bind_some];have hso':(tb||decide (0<=lead (bV m.Score.Board.Games w) f.Games))=zV f tb (bV m.Score.Board.Games w):=rfl;rw[hso'];have fin:∀(sets:List aJ) (g:aJ) (e:Int) (won:aJ) (G:uM),BI f (i+1) ⟨sets,g,⟨0,0⟩⟩->won=fL sets->∃m',(dN (aN.mk m.rules (cP.mk (cX.mk sets g (aJ.mk 0 0)) m.Score.Server e m.Score.Balls m.Score.Winner) m.first won m.ties (m.games++[G]))).bind (λr=>some r)=some m'/\m'.Score.Winner= -1/\((-1:Int)= -1->m'.Score.Board=⟨sets,g,⟨0,0⟩⟩/\PI f (i+1) m'):=by
   intro sets g e won G hb hwn;obtain⟨m',q1,q2,q3,q4,q5,q6,q7⟩:=bDx hf (m:=⟨m.rules,⟨⟨sets,g,⟨0,0⟩⟩,m.Score.Server,e,m.Score.Balls,m.Score.Winner⟩,m.first,won,m.ties,m.games++[G]⟩) h.rules h.win (by simp;omega);rw[aX q1];have hB:m'.Score.Board=⟨sets,g,⟨0,0⟩⟩:=q3;refine⟨m',rfl,q4,λ_=>⟨hB,q2.trans h.rules,by rw[hB];exact hb,q4,by rw[q5,hB];exact hwn,by rw[q6,q7];simp[tl],by rw[q7];simp;exact gi,?_⟩⟩;rw[q6,q5,hB];exact bSw _ _
  have finw:∀(e:Int) (G:uM) (x:List aJ) (y:aJ),∃m',(dN (aN.mk m.rules (cP.mk (cX.mk x (aJ.mk 0 0) (aJ.mk 0 0)) m.Score.Server e m.Score.Balls w) m.first y m.ties (m.games++[G]))).bind (λr=>some r)=some m'/\m'.Score.Winner=w/\(w= -1->m'.Score.Board=⟨x,⟨0,0⟩,⟨0,0⟩⟩/\PI f (i+1) m'):=by
   intro e G x y;obtain⟨m',q1,q2⟩:=bTl (m:=⟨m.rules,⟨⟨x,⟨0,0⟩,⟨0,0⟩⟩,m.Score.Server,e,m.Score.Balls,w⟩,m.first,y,m.ties,m.games++[G]⟩) (by simp;omega);rw[aX q1];exact⟨m',rfl,q2,λhn=>by omega⟩
  cases hso:zV f tb (bV m.Score.Board.Games w) with
  | false=>
   rw[hso,cond_false] at hne;rw[cond_false,cond_false,Option.bind_some];have hin:∃c,(bif decide ((w64 ((bV m.Score.Board.Games w).A+(bV m.Score.Board.Games w).B)).tmod 2=1) then(some (decide (m.Score.Winner<0))) else(some false))=some c:=by
    cases decide ((w64 ((bV m.Score.Board.Games w).A+(bV m.Score.Board.Games w).B)).tmod 2=1)<;>exact⟨_,rfl⟩
   obtain⟨c,hc⟩:=hin;rw[aX hc];cases c
   ·exact fin _ _ _ _ _ (hne rfl) h.won
   ·exact fin _ _ _ _ _ (hne rfl) h.won
  | true=>
   rw[hso,cond_true] at hne;have hw':=hsw hw01 hso;have hm':decide (max (bV (fL m.Score.Board.Sets) w).A (bV (fL m.Score.Board.Sets) w).B=m.rules.Format.Sets)=vL f (fL (m.Score.Board.Sets++[bV m.Score.Board.Games w])):=by rw[h.rules];exact hmax hw01 hso
   have hwn:vP m.won w=some (bV (fL m.Score.Board.Sets) w):=by rw[h.won];exact aSr (bRb _) (by omega) w
   rw[cond_true,cond_true,aX (eL (by simp;omega)),aX hwn,hm'];cases hmo:vL f (fL (m.Score.Board.Sets++[bV m.Score.Board.Games w])) with
   | true=>
    rw[cond_true,cond_true,Option.bind_some];have hin:∃c,(bif decide ((w64 ((bV m.Score.Board.Games w).A+(bV m.Score.Board.Games w).B)).tmod 2=1) then(some false) else(some false))=some c:=by
     cases decide ((w64 ((bV m.Score.Board.Games w).A+(bV m.Score.Board.Games w).B)).tmod 2=1)<;>exact⟨_,rfl⟩
    obtain⟨c,hc⟩:=hin;rw[aX hc];cases c
    ·exact finw _ _ _ _
    ·exact finw _ _ _ _
   | false=>
    rw[hmo,cond_false] at hne;rw[cond_false,cond_false,Option.bind_some];have hin:∃c,(bif decide ((w64 ((bV m.Score.Board.Games w).A+(bV m.Score.Board.Games w).B)).tmod 2=1) then(some (decide (m.Score.Winner<0))) else(some false))=some c:=by
     cases decide ((w64 ((bV m.Score.Board.Games w).A+(bV m.Score.Board.Games w).B)).tmod 2=1)<;>exact⟨_,rfl⟩
    obtain⟨c,hc⟩:=hin;rw[aX hc];cases c
    ·exact fin _ _ _ _ _ (hne rfl) hw'.symm
    ·exact fin _ _ _ _ _ (hne rfl) hw'.symm
end Go.Am
