/- A match by points has a score. -/
import Derived.Test.YtdebnakalmnnpaaGreatDoorChPlain4
namespace Go.Am
set_option maxRecDepth 10000
def cCp(t:Option ((Option aN)×Int)):Prop:=∃r,t=some r/\(r.2=0->∃m,r.1=some m)
theorem bPx{f:bU}(hf:okF f){ps:List Int}(hp:ps.length<=600)(h01:∀s∈ps,s=0\/s=1):∀(n i k:Nat) (m:aN),ps.length-i=n->n<k->i<=ps.length->(PI f i m\/0<=m.Score.Winner)->cCp (bIu ps k (i:Int) m):=by
 intro n
 induction n with
 | zero=>
  intro i k m hn hk hi _;cases k with
  |zero=>omega
  | succ k=>
   have h':¬((i:Int)<(ps.length:Int)):=by omega
   simp only[bIu,qN,h',decide_false,cond_false,aHc];exact⟨_,rfl,λ_=>⟨_,rfl⟩⟩
 | succ n ih=>
  intro i k m hn hk hi hm;cases k with
  |zero=>omega
  | succ k=>
   have h:i<ps.length:=by omega
   have hs:=h01 _ (List.getElem_mem h);simp only[bIu,qN,Int.ofNat_lt,h,decide_true,cond_true,bE h,Option.bind_some,bG (show i<9223372036854775807 by omega)];have e1:(bif !decide (ps[i]=0) then(some (!decide (ps[i]=1))) else(some false))=some false:=by
    rcases hs with h|h<;>rw[h]<;>rfl
   rw[e1,Option.bind_some,cond_false]
   by_cases hw:0<=m.Score.Winner
   ·simp only[hw,decide_true,Option.bind_some,cond_true];exact⟨_,rfl,λh=>by cases h⟩
   ·simp only[hw,decide_false,Option.bind_some,cond_false];have hPI:PI f i m:=hm.resolve_right hw;obtain⟨m',h1,h2,h3⟩:=bQb hf hPI (by omega) hs;have h1':nU (aN.mk m.rules (cP.mk (cX.mk m.Score.Board.Sets m.Score.Board.Games m.Score.Board.Points) m.Score.Server m.Score.Ends m.Score.Balls m.Score.Winner) m.first m.won m.ties m.games) ps[i]=some m':=h1;rw[h1',Option.bind_some];refine ih (i+1) k m' (by omega) (by omega) (by omega) ?_
    rcases bLj f m.Score.Board (zJ f (fL m.Score.Board.Sets) m.Score.Board.Games) (sF f (fL m.Score.Board.Sets)).2 ps[i] with hc|hc|hc
    ·exact .inl (h3 hc).2
    ·exact .inr (by rw[h2,hc];decide)
    ·exact .inr (by rw[h2,hc];decide)
theorem bRl(f:bU)(ps:List Int)(h01:∀s∈ps,s=0\/s=1):∃r,aDs f 0 ps=some r:=by
 obtain⟨c,_,h2,h3⟩:=bMd f;have key:cCp (aDt f 0 ps):=by
  unfold aDt;rw[aX h2]
  by_cases hc:c=0
  ·have hf:=h3 hc;subst hc;rw[decide_eq_true rfl,Bool.not_true,cond_false];rw[cond_false,Option.bind_some,cond_false]
   by_cases hl:(600:Int)<(ps.length:Int)
   ·rw[decide_eq_true hl,cond_true];exact⟨_,rfl,λh=>by cases h⟩
   ·rw[decide_eq_false hl,cond_false];obtain⟨m,n1,n2,n3,n4,n5,n6,n7⟩:=bDx hf (m:=⟨⟨f⟩,⟨⟨[],⟨0,0⟩,⟨0,0⟩⟩,0,0,0,-1⟩,0,⟨0,0⟩,[],[]⟩) rfl rfl (by simp);have hbi:BI f 0 ⟨[],⟨0,0⟩,⟨0,0⟩⟩:=by
     unfold okF at hf;exact⟨by simp,aMn _,aMn _,bZk _,bRa _ _ _,by simp[fL];omega,by simp[fL];omega⟩
    have hPI:PI f 0 m:=⟨n2,by rw[n3];exact hbi,n4,by rw[n5,n3];rfl,by rw[n6,n7];simp,by rw[n7];simp,by rw[n6,n5,n3];rfl⟩;have hb:aAo ⟨f⟩ 0=some m:=by
     unfold aAo;rw[aX n1]
    rw[hb,Option.bind_some];exact bPx hf (by omega) h01 ps.length 0 BIG m (by omega) (cC (by omega)) (Nat.zero_le _) (.inl hPI)
  ·rw[decide_eq_false hc,Bool.not_false,cond_true];exact⟨_,rfl,λh=>absurd h hc⟩
 obtain⟨r,h1,h4⟩:=key;unfold aDs;rw[aX h1]
 by_cases hr:r.2=0
 ·obtain⟨m,hm⟩:=h4 hr;rw[decide_eq_true hr,Bool.not_true,cond_false,hm];exact⟨_,rfl⟩
 ·rw[decide_eq_false hr,Bool.not_false,cond_true];exact⟨_,rfl⟩
end Go.Am
