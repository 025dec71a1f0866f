/- A script of a match and points. -/
import Derived.Test.YtdebnakalmnnpaaGreatDoorSuP4
import Derived.Test.YtdebnakalmnnpaaGreatDoorBbDet
import Derived.Test.YtdebnakalmnnpaaGreatDoorRfSh
import Derived.KernelRfl
namespace Go.Am
set_option maxRecDepth 100000
def kP:Str:=[111,112,101,110,32,48,32,48,32,48]
def ptL(s:Int):Str:=[112,111,105,110,116,32]++(bif decide (s=0) then [48] else [49])
theorem bPu:sU kP=some (([111,112,101,110],[0,0,0],true)):=by kernel_rfl
theorem bXi:sU (ptL 0)=some (([112,111,105,110,116],[0],true)):=by kernel_rfl
theorem bXj:sU (ptL 1)=some (([112,111,105,110,116],[1],true)):=by kernel_rfl
theorem bVj(x:aK):jT x kP=jS x 0 0 0:=by
 unfold jT;rw[bPu]
 rfl
theorem bRr(x:aK){s:Int}(hs:s=0\/s=1):jT x (ptL s)=iS x s:=by
 rcases hs with rfl|rfl
 ·unfold jT;rw[bXi]
  rfl
 ·unfold jT;rw[bXj]
  rfl
theorem indexB(l:List aE)(hl:l.length<=9223372036854775807)(f:aE->Option Bool)(g:aE->Bool)(hf:∀x∈l,f x=some (g x)):∃r:Int,mU l f=some r/\(r<0\/∃(i:Nat) (h:i<l.length),r=i/\g l[i]=true):=by
 have main:∀k (i:Nat),l.length-i<k->i<=l.length->∃r:Int,eN l f (l.length:Int) k (i:Int)=some r/\(r<0\/∃(i:Nat) (h:i<l.length),r=i/\g l[i]=true):=by
  intro k
  induction k with
  |zero=>intro i h;omega
  | succ k ih=>
   intro i hk hi
   by_cases h:i<l.length
   ·simp only[eN,Int.ofNat_lt,h,decide_true,cond_true,bE h,Option.bind_some,hf _ (List.getElem_mem h),bG (show i<9223372036854775807 by omega)];cases hg:g l[i] with
    |true=>exact⟨i,rfl,.inr ⟨i,h,rfl,hg⟩⟩
    |false=>exact ih (i+1) (by omega) (by omega)
   ·have e:i=l.length:=by omega
    subst e;simp only[eN,Int.lt_irrefl,decide_false,cond_false,oY];exact⟨-1,rfl,.inl (by decide)⟩
 have:=main BIG 0 (cC (by omega)) (Nat.zero_le _);exact this
def aXb(b:aE):Prop:=(0<=b.One/\b.One<=999)/\0<=b.Two/\b.Two<=999
theorem bXl(t:aD):∃o,xY t []=some o/\o.1.length<=100/\∀b∈o.1,b.Round=0->aXb b:=by
 show∃o,lT t []=some o/\_
 rcases wJ t [] with⟨d,hg⟩|⟨e,he⟩
 ·obtain⟨must,hd,hM⟩:=aCa hg;refine⟨_,aXf hg hd hM,?_,λb hb h0=>?_⟩
  ·have:=bQf hg.ht d must;simp only;omega
  ·simp only[aJf,List.mem_filter] at hb;obtain⟨r,p,hr,hp,rfl⟩:=aOf hb.1;have hr0:r=0:=by simp only at h0;omega
   subst hr0;have hrd:=hb.2;simp only[tJ,Bool.and_eq_true,decide_eq_true_eq] at hrd;have hle:∀a,d.getD a 0<=999:=λa=>by
    by_cases ha:a<d.length
    ·exact hg.le999 ha
    ·rw[List.getD_eq_getElem?_getD,List.getElem?_eq_none (by omega)];decide
   have h1:jN d must 0 (2*p)=d.getD (2*p) 0:=rfl;have h2:jN d must 0 (2*p+1)=d.getD (2*p+1) 0:=rfl;have h3:=hle (2*p);have h4:=hle (2*p+1);exact⟨⟨hrd.2.1,by simp only[h1];exact h3⟩,hrd.2.2,by simp only[h2];exact h4⟩
 ·exact⟨_,bCy he,by simp,λb hb=>by simp at hb⟩
theorem bQg(x:aK)(hx:x.Register.Slips=[]):∃b is,pR x 0 0=some (b,is)/\(is=true->aXb b):=by
 obtain⟨o,h1,h2,h3⟩:=bXl x.Desk.Tree;unfold pR;rw[hx,aX h1];obtain⟨r,hr,hc⟩:=indexB o.1 (by omega) (λy5=>nI y5 0 0) (λb=>decide (b.Round=0)&&decide (b.Place=0)) (λb _=>by unfold nI;rw[cB,Option.bind_some]);rw[aX hr]
 rcases hc with hc|⟨i,hi,rfl,hg⟩
 ·rw[decide_eq_true hc,cond_true];exact⟨_,_,rfl,λh=>by cases h⟩
 ·rw[decide_eq_false (by omega),cond_false,aX (bE hi)];refine⟨_,_,rfl,λ_=>h3 _ (List.getElem_mem hi) ?_⟩;simp only[Bool.and_eq_true,decide_eq_true_eq] at hg;exact hg.1
structure DI(d:cT)(ws:List Int)(x:aK):Prop where
 desk:x.Desk=d
 notes:x.Register.Notices=[]
 days:x.Register.Days=d.Days
 slips:x.Register.Slips.length<=1
 pts:x.Register.Points.length<=200
 st:x.Register.Round= -1\/(x.Register.Round=0/\x.Register.First=0/\x.Register.Points=ws/\x.Register.Slips=[]/\aXb x.bout)
def aFi(d:cT):aK:=aK.mk d (bL.mk 0 [] [] (-1) (-1) 0 [] d.Days) (aE.mk 0 0 0 0)
theorem bVl{d:cT}(h:aIl d):wW d=some (aFi d):=by
 unfold wW;have main:=fX (S:=List (List bO)) (λk i l=>lY d k i l) d.Days.length (λ_ _=>some (aFi d)) (λi l=>l=d.Days.take i) ?_ ?_ BIG [] (cC (by have:=h.days;omega)) (by simp)
 ·exact main
 ·intro k i l hi hl ih;have hd:=h.day _ (List.getElem_mem hi);have hds:=h.days;simp only[lY,Int.ofNat_lt,hi,decide_true,cond_true,bE hi,Option.bind_some,qC];rw[eL (by simp;omega),Option.bind_some,Option.bind_some,eL (by rw[hl];simp;omega),Option.bind_some,bG (show i<9223372036854775807 by omega)];refine ih _ ?_;rw[hl,List.nil_append,List.take_succ_eq_append_getElem hi]
 ·intro k l hl;simp only[lY,Int.lt_irrefl,decide_false,cond_false];rw[hl,List.take_length]
  rfl
theorem bTs(d:cT):∃a x,jS (aFi d) 0 0 0=some (a,x)/\DI d [] x:=by
 obtain⟨b,is,h1,h2⟩:=bQg (aFi d) rfl;unfold jS;rw[aX h1];have hp:kQ (aFi d)=some false:=rfl;rw[aX hp];cases is with
 |false=>exact⟨_,_,rfl,rfl,rfl,rfl,by simp[aFi],by simp[aFi],.inl rfl⟩
 |true=>exact⟨_,_,rfl,rfl,rfl,rfl,by simp[aFi],by simp[aFi],.inr ⟨rfl,rfl,rfl,rfl,h2 rfl⟩⟩
theorem bMt{n:Int}(h0:0<=n)(h1:n<=999):∃r,strconv_Itoa n=some r:=by
 unfold strconv_Itoa aYu;rw[if_pos (by omega)];exact⟨_,rfl⟩
theorem bYn{d:cT}{ws ws':List Int}{x:aK}(h:DI d ws x)(hs:x.Register.Slips=[])(hb:aXb x.bout)(side:Int):∃a x',lZ x side 1=some (a,x')/\DI d ws' x':=by
 unfold lZ;rw[hs];have h60:decide ((60:Int)<=(([]:List aA).length:Int))=false:=rfl;rw[h60,cond_false];obtain⟨r1,e1⟩:=bMt hb.1.1 hb.1.2;obtain⟨r2,e2⟩:=bMt hb.2.1 hb.2.2;cases decide (side=1) with
 | true=>
  rw[cond_true,eL (by simp),Option.bind_some,aX e2];exact⟨_,_,rfl,h.desk,h.notes,h.days,by simp,by simp,.inl rfl⟩
 | false=>
  rw[cond_false,eL (by simp),Option.bind_some,aX e1];exact⟨_,_,rfl,h.desk,h.notes,h.days,by simp,by simp,.inl rfl⟩
theorem bQa{d:cT}{ws:List Int}{x:aK}(h:DI d ws x){s:Int}(hs:s=0\/s=1)(h01:∀w∈ws,w=0\/w=1)(hl:ws.length<=100):∃a x',iS x s=some (a,x')/\DI d (ws++[s]) x':=by
 unfold iS;have hp:kQ x=some (decide (0<=x.Register.Round)):=rfl;rw[aX hp]
 rcases h.st with hr|⟨hr,hf,hpt,hsl,hb⟩
 ·have e:decide (0<=x.Register.Round)=false:=by rw[hr];rfl
  rw[e,Bool.not_false,cond_true,Option.bind_some,cond_true];exact⟨_,_,rfl,h.desk,h.notes,h.days,h.slips,h.pts,.inl hr⟩
 ·have e:decide (0<=x.Register.Round)=true:=by rw[hr];rfl
  have e1:decide (1<s)=false:=by rcases hs with rfl|rfl<;>rfl
  rw[e,Bool.not_true,cond_false,Option.bind_some,e1,cond_false,hpt,decide_eq_false (show¬(600:Int)<=(ws.length:Int) by omega),cond_false];have hc:gO ws=some ws:=by
   unfold gO;rw[eL (by simp;omega),Option.bind_some,List.nil_append]
  rw[aX hc,eL (by simp;omega),Option.bind_some,h.desk,hf];obtain⟨r,hpl⟩:=bRl d.Format (ws++[s]) (λw hw=>by
   rcases List.mem_append.1 hw with hw|hw
   ·exact h01 w hw
   ·rw[List.mem_singleton.1 hw];exact hs)
  rw[aX hpl];cases decide (0<=r.1.Winner) with
  | true=>
   obtain⟨a,x',hw,hI⟩:=bYn (ws':=ws++[s]) h hsl hb r.1.Winner;rw[cond_true,aX hw];exact⟨_,_,rfl,hI⟩
  | false=>
   rw[cond_false];exact⟨_,_,rfl,rfl,h.notes,h.days,h.slips,by simp;omega,.inr ⟨hr,rfl,rfl,hsl,hb⟩⟩
theorem bQl{d:cT}(ws:List Int)(h01:∀w∈ws,w=0\/w=1)(hl:ws.length<=50):∀(n k:Nat) (x:aK) (l:List Str) (i:Nat),ws.length-i=n->i<=ws.length->n<k->l.length=i+1->DI d (ws.take i) x->
  ∃l' x',jP (kP::ws.map ptL) k ((i+1:Nat):Int) x l=some (l',x')/\DI d ws x'/\l'.length=ws.length+1:=by
 intro n
 induction n with
 | zero=>
  intro k x l i hn hi hk hll hx;cases k with
  |zero=>omega
  | succ k=>
   have he:i=ws.length:=by omega
   subst he;rw[List.take_length] at hx;have h':¬(((ws.length+1:Nat):Int)<((kP::ws.map ptL).length:Int)):=by simp
   simp only[jP,h',decide_false,cond_false];exact⟨l,x,rfl,hx,hll⟩
 | succ n ih=>
  intro k x l i hn hi hk hll hx;cases k with
  |zero=>omega
  | succ k=>
   have hiw:i<ws.length:=by omega
   have hlt:i+1<(kP::ws.map ptL).length:=by simp;omega
   have hs:=h01 _ (List.getElem_mem hiw);have hidx:idx (kP::ws.map ptL) ((i+1:Nat):Int)=some (ptL ws[i]):=by
    rw[bE hlt];simp
   obtain⟨a,x',hp,hI⟩:=bQa hx hs (λw hw=>h01 w (List.mem_of_mem_take hw)) (by simp;omega);simp only[jP,Int.ofNat_lt,hlt,decide_true,cond_true];rw[aX hidx,bRr x hs,aX hp,eL (by simp;omega),Option.bind_some,bG (show i+1<9223372036854775807 by omega)];refine ih k x' _ (i+1) (by omega) (by omega) (by omega) (by simp;omega) ?_;rw[List.take_succ_eq_append_getElem hiw];exact hI
theorem cBu{d:cT}(hd:aIl d)(hc:jF d=some 0)(ws:List Int)(h01:∀w∈ws,w=0\/w=1)(hl:ws.length<=50):
  ∃l x,pE d (kP::ws.map ptL)=some (l,x.Register,0)/\DI d ws x/\l.length=ws.length+1:=by
 obtain⟨e,h1,h2⟩:=aUr hd;rw[hc] at h1;cases h1;unfold pE;rw[aX (h2 rfl),decide_eq_true rfl,Bool.not_true,cond_false,decide_eq_false (show¬(80:Int)<((kP::ws.map ptL).length:Int) by simp;omega),cond_false,aX (bVl hd)];obtain⟨a,x,ho,hI⟩:=bTs d;have hidx:idx (kP::ws.map ptL) 0=some kP:=bHs;have hw:w64 (0+1)=((0+1:Nat):Int):=rfl;obtain⟨l',x',hr,hI',hlen⟩:=bQl ws h01 hl ws.length 18446744073709551615 x [a] 0 (by omega) (Nat.zero_le _) (by omega) rfl (by simpa using hI);have hstep:jP (kP::ws.map ptL) BIG 0 (aFi d) []=some (l',x'):=by
  rw[aEh];have hlt:decide ((0:Int)<((kP::ws.map ptL).length:Int))=true:=decide_eq_true (by simp);rw[jP,hlt,cond_true,aX hidx,bVj,aX ho,eL (by simp),Option.bind_some,hw];exact hr
 rw[aX hstep];exact⟨l',x',rfl,hI',hlen⟩
end Go.Am
