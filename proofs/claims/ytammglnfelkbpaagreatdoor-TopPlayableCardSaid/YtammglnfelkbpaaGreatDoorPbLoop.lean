/- The script of an order of play, line by line. -/
import Derived.Test.YtammglnfelkbpaaGreatDoorPbRun
namespace Go.Am
set_option maxRecDepth 100000
theorem aTy{scr:List Str}{k i:Nat}{x:aJ}{l:List Str}{line:Str}{r:Str×aJ}(hi:scr[i]?=some line)(hs:scr.length<=1000)(hl:l.length<=1000)(ha:cX x line=some r):
  gI scr (k+1) (i:Int) x l=gI scr k ((i+1:Nat):Int) r.2 (l++[r.1]):=by
 obtain⟨hlt,he⟩:=g7.1 hi;simp only[gI,m6,hlt,j4,i7];rw[bI hlt,c6,he,ha,c6,gD (by simp;omega),c6,bF (by omega)]
theorem cHn{scr:List Str}{k:Nat}{x:aJ}{l:List Str}:gI scr (k+1) (scr.length:Int) x l=some (l,x):=by
 simp only[gI,Int.lt_irrefl,m5,g6]
def rG(sides:List Int)(j:Nat):Nat:=if sides[j]?=some 1 then 1 else 0
theorem bFd(sides:List Int)(j:Nat):rG sides j<2:=by unfold rG;split<;>omega
def aZf(t:aD)(must:List (List Int))(order:List aF)(sides:List Int)(j:Nat):Str:=aZr (dM t must (order.getD j default)).1 (dM t must (order.getD j default)).2 (rG sides j)
def qL(t:aD)(must:List (List Int))(order:List aF)(sides:List Int):Nat->List Str
 |0=>[]
 |i+1=>qL t must order sides i++[aZf t must order sides i,aWz (rG sides i)]
section
variable{t:aD}{must:List (List Int)}{order:List aF}{sides:List Int}
theorem aJu:∀n,(qL t must order sides n).length=2*n
 |0=>rfl
 |n+1=>by simp[qL,aJu n];omega
theorem bKk:∀{n j:Nat},j<n->(qL t must order sides n)[2*j]?=some (aZf t must order sides j)/\(qL t must order sides n)[2*j+1]?=some (aWz (rG sides j))
 | n+1,j,h=>by
  have hl:=aJu (t:=t) (must:=must) (order:=order) (sides:=sides) n;simp only[qL]
  by_cases hj:j<n
  ·rw[m9 (by omega),m9 (by omega)];exact bKk hj
  ·have:j=n:=by omega
   subst this;rw[p7 (by omega),p7 (by omega),hl]
   simp
end
structure AI(i:Nat)(ans:List Str)(sl:List aA):Prop where
 al:ans.length=2*i
 sn:sl.length=i
 at':∀j,j<i->∃w x,ans[2*j]?=some [111,107]/\ans[2*j+1]?=some w/\sl[j]?=some x/\x.Kind=3/\0<=x.Player/\bV x.Player=some w
theorem AI.push{i:Nat}{ans:List Str}{sl:List aA}(h:AI i ans sl){w:Str}{x:aA}(hk:x.Kind=3)(h0:0<=x.Player)(hd:bV x.Player=some w):AI (i+1) (ans++[[111,107]]++[w]) (sl++[x]):=by
 obtain⟨h1,h2,h3⟩:=h;refine⟨by simp[h1];omega,by simp[h2],λj hj=>?_⟩
 by_cases hji:j<i
 ·obtain⟨w',x',a,b,c,e⟩:=h3 j hji;refine⟨w',x',?_,?_,?_,e⟩
  ·rw[List.append_assoc,m9 (by omega)];exact a
  ·rw[List.append_assoc,m9 (by omega)];exact b
  ·rw[m9 (by omega)];exact c
 ·have:j=i:=by omega
  subst this;refine⟨w,x,?_,?_,?_,hk,h0,hd⟩
  ·rw[List.append_assoc,p7 (by omega),h1];simp
  ·rw[List.append_assoc,p7 (by omega),h1];simp
  ·rw[p7 (by omega),h2];simp
section
variable{d:dK}{S:List Int}{must:List (List Int)}(ht:TreeOK d.Tree)(hR:d.Tree.Rounds.toNat<=2){stages:List bR}{order:List aF}(ho:Py.isOrd ⟨d.Days,d.Rest,eW stages (cO d.Tree S must)⟩ order=true)(hn:order.length<=6)(hst:(stages.length:Int)=d.Tree.Rounds/\stages.all jY=true)(hds:d.Stages=stages)(sides:List Int)
include ht hR ho hn hst hds
omit ht hn hst hds in
theorem bIs{i:Nat}(hi:i<order.length):(dM d.Tree must order[i]).1<2/\(dM d.Tree must order[i]).2<2/\(dM d.Tree must order[i]).1<d.Tree.Rounds.toNat/\(dM d.Tree must order[i]).2<bM d.Tree (dM d.Tree must order[i]).1:=by
 obtain⟨⟨h1,h2⟩,_⟩:=aSc.1 (aWl ho hi);refine⟨by omega,?_,h1,h2⟩;have:bM d.Tree (dM d.Tree must order[i]).1<=2^1:=by
  unfold bM;exact aE5 (by decide) (by omega)
 omega
theorem cCe:∀(m i k:Nat) (sl:List aA) (b:aG) (ans:List Str),order.length-i=m->i<=order.length->2*m+2<k->TI d.Tree S (oN d.Tree must) (aCc d.Tree must order i) sl->AI i ans sl->
  ∃A sl' b',gI (qL d.Tree must order sides order.length++[wR,wQ]) k ((2*i:Nat):Int) (lA d sl b) ans=some (A++[[48],[48]],lA d sl' b')/\AI order.length A sl':=by
 have hlen:=aJu (t:=d.Tree) (must:=must) (order:=order) (sides:=sides) order.length;have hL:(qL d.Tree must order sides order.length++[wR,wQ]).length=2*order.length+2:=by simp[hlen]
 intro m
 induction m with
 | zero=>
  intro i k sl b ans hm hi hk hT hA;have hie:i=order.length:=by omega
  subst hie;obtain⟨hleft,hjobs⟩:=hT.done (bVy ho) hst (by have:=hst.1;have:=ht.r5;omega);obtain⟨k,rfl⟩:∃q,k=q+3:=⟨k-3,by omega⟩;have hal:=hA.al;have a1:cX (lA d sl b) wR=some ([48],lA d sl b):=by
   rw[bYq];have:nI (lA d sl b)=some [48]:=by
    unfold nI;show(tT d.Tree sl).bind _=_;rw[hleft]
    kernel_rfl
   rw[this];rfl
  have a2:cX (lA d sl b) wQ=some ([48],lA d sl b):=by
   rw[bYp];have:qC (lA d sl b)=some [48]:=by
    unfold qC vG;show((oW d.Tree sl d.Stages).bind _).bind _=_;rw[hds,hjobs]
    kernel_rfl
   rw[this];rfl
  rw[aTy (by rw[p7 (by omega),hlen];simp) (by omega) (by omega) a1,aTy (by rw[p7 (by omega),hlen];simp) (by omega) (by simp;omega) a2];refine⟨ans,sl,b,?_,hA⟩;have e:((2*order.length+1+1:Nat):Int)=((qL d.Tree must order sides order.length++[wR,wQ]).length:Int):=by rw[hL]
  rw[e,cHn]
  simp
 | succ m ih=>
  intro i k sl b ans hm hi hk hT hA;have hio:i<order.length:=by omega
  obtain⟨k,rfl⟩:∃q,k=q+2:=⟨k-2,by omega⟩;obtain⟨m1,m2,m3,m4⟩:=bIs hR ho hio;have hal:=hA.al;have hsl:=hA.sn;have hdl:(aCc d.Tree must order i).length=i:=by unfold aCc;simp;omega
  obtain⟨b',l,r1,r2,r3,r4,r5,r6,r7,r8,r9⟩:=hT.step m3 m4 (aWl ho hio) (bWa ho hio) (λs hs h0 hx=>bVz ht ho hio hs h0 hx) (by omega);have hsd:=bFd sides i;have hg:=bKk (t:=d.Tree) (must:=must) (order:=order) (sides:=sides) hio;have hgd:order.getD i default=order[i]:=bC hio _;have b1:cX (lA d sl b) (aZf d.Tree must order sides i)=some ([111,107],aAg d sl (dM d.Tree must order[i]).1 (dM d.Tree must order[i]).2 (rG sides i) b'):=by
   unfold aZf;rw[hgd,bYr _ m1 m2 hsd];exact bWk hsd r1 r2 r3 r4 r5 r6
  obtain⟨w,n,c1,c2,c3,c4,c5⟩:=cCb (d:=d) (sl:=sl) (r:=(dM d.Tree must order[i]).1) (p:=(dM d.Tree must order[i]).2) hsd (b:=b') (by omega) r7 r8;have b2:cX (aAg d sl (dM d.Tree must order[i]).1 (dM d.Tree must order[i]).2 (rG sides i) b') (aWz (rG sides i))=some (w,lA d (sl++[⟨3,(dM d.Tree must order[i]).1,(dM d.Tree must order[i]).2,n,0⟩]) b'):=by
   rw[cFi _ hsd];exact c5
  rw[aTy (by rw[m9 (by omega)];exact hg.1) (by omega) (by omega) b1,aTy (by rw[m9 (by omega)];exact hg.2) (by omega) (by simp;omega) b2];have e:2*i+1+1=2*(i+1):=by omega
  rw[e];refine ih (i+1) k _ b' _ (by omega) (by omega) (by omega) ?_ (hA.push rfl c2 c4);rw[bQp hio]
  rcases c1 with rfl|rfl
  ·exact(r9 3 (by omega)).1
  ·exact(r9 3 (by omega)).2
end
end Go.Am
