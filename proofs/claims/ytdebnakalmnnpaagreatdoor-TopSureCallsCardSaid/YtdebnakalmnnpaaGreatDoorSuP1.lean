/- Lines: views and boxes that are valid, centres of truths. -/
import Derived.Test.YtdebnakalmnnpaaGreatDoorRgSh
import Derived.Test.YtdebnakalmnnpaaGreatDoorAmPlain
namespace Go.Am
set_option maxRecDepth 10000
def btw(n lo hi:Int):Bool:=decide (lo<=n)&&decide (n<=hi)
theorem bMc{n lo hi:Int}:btw n lo hi=true↔lo<=n/\n<=hi:=by simp[btw]
theorem aHx(n lo hi:Int):kG n lo hi=some (btw n lo hi):=by unfold kG;rw[cB];rfl
theorem aDo(n lo hi:Int):dX n lo hi=some (btw n lo hi):=by unfold dX;rw[cB];rfl
theorem aRv(s:bO)(lo hi:Int):nF s lo hi=some (decide (s.Low<=s.High)&&btw s.Low lo hi&&btw s.High lo hi):=by
 unfold nF;simp only[aHx,Option.bind_some,cB]
def rZ(s:dT):Bool:=btw s.P (-3) 3&&btw s.Q (-3) 3&&(!decide (s.P=0)||!decide (s.Q=0))&&(decide (s.Low<=s.High)&&btw s.Low (-500) 500&&btw s.High (-500) 500)
theorem bPg(s:dT):wS s=some (rZ s):=by
 unfold wS;simp only[aHx,aRv,Option.bind_some,cB,jO]
 rfl
theorem bRz(l:List dT)(hl:l.length<=9223372036854775807)(f:dT->Option Bool)(g:dT->Bool)(hf:∀x∈l,f x=some (g x)):gS l f=some (l.any g):=by
 have main:∀k (i:Nat),l.length-i<k->i<=l.length->∃r:Int,dI l f (l.length:Int) k (i:Int)=some r/\decide (0<=r)=(l.drop i).any g:=by
  intro k
  induction k with
  |zero=>intro i h;omega
  | succ k ih=>
   intro i hk hi
   by_cases h:i<l.length
   ·simp only[dI,Int.ofNat_lt,h,decide_true,cond_true,bE h,Option.bind_some,hf _ (List.getElem_mem h),bG (show i<9223372036854775807 by omega)];rw[List.drop_eq_getElem_cons h,List.any_cons];cases g l[i] with
    |true=>exact⟨i,rfl,by simp⟩
    | false=>
     obtain⟨r,h1,h2⟩:=ih (i+1) (by omega) (by omega);exact⟨r,h1,by simpa using h2⟩
   ·have e:i=l.length:=by omega
    subst e;simp only[dI,Int.lt_irrefl,decide_false,cond_false,oE];exact⟨-1,rfl,by simp⟩
 unfold gS lQ;obtain⟨r,h1,h2⟩:=main BIG 0 (cC (by omega)) (Nat.zero_le _);have h1:dI l f (l.length:Int) BIG 0=some r:=h1;rw[h1,Option.bind_some,h2]
 rfl
def aKs(v:bQ):Bool:=v.Strips.all rZ&&!decide (8<(v.Strips.length:Int))&&btw v.Size 0 40&&btw v.Wrong 0 3&&(decide (v.HalfX.Low<=v.HalfX.High)&&btw v.HalfX.Low 1 9&&btw v.HalfX.High 1 9)&&(decide (v.HalfY.Low<=v.HalfY.High)&&btw v.HalfY.Low 1 9&&btw v.HalfY.High 1 9)
theorem bSv(v:bQ)(hl:v.Strips.length<=9223372036854775807):aAh v=some (bif aKs v then 0 else 20):=by
 unfold aAh;rw[bRz v.Strips hl _ (λs=>!rZ s) (λx _=>by unfold aAy;rw[bPg];rfl)];simp only[aHx,aRv,Option.bind_some,jO];have e:v.Strips.any (λs=>!rZ s)=!v.Strips.all rZ:=by simp[List.any_eq_not_all_not]
 rw[e];unfold aKs
 generalize(decide (v.HalfX.Low<=v.HalfX.High)&&btw v.HalfX.Low 1 9&&btw v.HalfX.High 1 9)=hx
 generalize(decide (v.HalfY.Low<=v.HalfY.High)&&btw v.HalfY.Low 1 9&&btw v.HalfY.High 1 9)=hy
 generalize btw v.Size 0 40=q1
 generalize btw v.Wrong 0 3=q2
 generalize decide (8<(v.Strips.length:Int))=q3
 cases v.Strips.all rZ<;>cases q3<;>cases q1<;>cases q2<;>cases hx<;>cases hy<;>rfl
theorem bUf(v:bQ)(hl:v.Strips.length<=9223372036854775807):gV v BIG 0=some (bif v.Strips.all rZ then 0 else 20):=by
 have main:=kW (λk i=>gV v k i) v.Strips.length (λi=>match v.Strips[i]? with|some s=>rZ s|none=>false) (some 20) (some 0) ?_ ?_ BIG (cC hl)
 ·rw [main];have e:(List.range v.Strips.length).all (λi=>match v.Strips[i]? with|some s=>rZ s|none=>false)=v.Strips.all rZ:=by
   rw[Bool.eq_iff_iff,pQ,List.all_eq_true]
   constructor
   ·intro h s hs;obtain⟨i,hi,rfl⟩:=List.getElem_of_mem hs;have:=h i hi
    simpa[hi] using this
   ·intro h i hi
    simp[hi,h _ (List.getElem_mem hi)]
  rw[e];cases v.Strips.all rZ<;>rfl
 ·intro k i hi;simp only[gV,Int.ofNat_lt,hi,decide_true,cond_true,bE hi,Option.bind_some,aDo,jO,cB,bG (show i<9223372036854775807 by omega),List.getElem?_eq_getElem hi];have e:(!btw v.Strips[i].P (-3) 3||!btw v.Strips[i].Q (-3) 3||(decide (v.Strips[i].P=0)&&decide (v.Strips[i].Q=0))||decide (v.Strips[i].Low< -500)||decide (v.Strips[i].High<v.Strips[i].Low)||decide (500<v.Strips[i].High))=!rZ v.Strips[i]:=by
   unfold rZ btw;rw[Bool.eq_iff_iff]
   simp
   omega
  rw[e];cases rZ v.Strips[i]<;>rfl
 ·intro k
  simp[gV,xK]
theorem bEi(v:bQ)(hl:v.Strips.length<=9223372036854775807):lS v=some (bif aKs v then 0 else 20):=by
 unfold lS;rw[bUf v hl];simp only[aDo,Option.bind_some,jO];unfold aKs;have e:(!btw v.Size 0 40||decide (8<(v.Strips.length:Int))||!btw v.Wrong 0 3||decide (v.HalfX.Low<1)||decide (v.HalfX.High<v.HalfX.Low)||decide (9<v.HalfX.High)||decide (v.HalfY.Low<1)||decide (v.HalfY.High<v.HalfY.Low)||decide (9<v.HalfY.High))=!(!decide (8<(v.Strips.length:Int))&&btw v.Size 0 40&&btw v.Wrong 0 3&&(decide (v.HalfX.Low<=v.HalfX.High)&&btw v.HalfX.Low 1 9&&btw v.HalfX.High 1 9)&&(decide (v.HalfY.Low<=v.HalfY.High)&&btw v.HalfY.Low 1 9&&btw v.HalfY.High 1 9)):=by
  unfold btw;rw[Bool.eq_iff_iff]
  simp
  omega
 rw[e];simp only[Bool.and_assoc]
 generalize(!decide (8<(v.Strips.length:Int))&&(btw v.Size 0 40&&(btw v.Wrong 0 3&&(decide (v.HalfX.Low<=v.HalfX.High)&&(btw v.HalfX.Low 1 9&&(btw v.HalfX.High 1 9&&(decide (v.HalfY.Low<=v.HalfY.High)&&(btw v.HalfY.Low 1 9&&btw v.HalfY.High 1 9))))))))=q
 cases q<;>cases v.Strips.all rZ<;>rfl
def aNf(b:dZ):Bool:=decide (0<=b.Left)&&decide (b.Left<=b.Right)&&decide (b.Right<=40)&&decide (0<=b.Bottom)&&decide (b.Bottom<=b.Top)&&decide (b.Top<=40)
theorem bWj(b:dZ):oS b=some (aNf b):=by
 unfold oS;simp only[Option.bind_some,cB]
 rfl
theorem bKy(b:dZ):vC b=some (bif aNf b then 0 else 21):=by
 unfold vC;simp only[aRv,Option.bind_some,jO];have e:(!(decide (b.Left<=b.Right)&&btw b.Left 0 40&&btw b.Right 0 40)||!(decide (b.Bottom<=b.Top)&&btw b.Bottom 0 40&&btw b.Top 0 40))=!aNf b:=by
  unfold aNf btw;rw[Bool.eq_iff_iff]
  simp
  omega
 rw[e];cases aNf b<;>rfl
theorem bRc(v:bQ)(x y:Int):aFo v x y=oU v x y:=by
 have key:∀k i out,oW x y v.Strips (v.Strips.length:Int) k i out=fA x y v k i out:=by
  intro k
  induction k with
  |zero=>intro i out;rfl
  | succ k ih=>
   intro i out;simp only[oW,fA,aHx,aDo,ih,aEr,sA]
 exact key BIG 0 []
theorem bAq(v:bQ)(x y:Int)(hl:v.Strips.length<=1000):∃l,oU v x y=some l:=by
 refine aGg (λk i s=>fA x y v k i s) v.Strips.length (λt=>∃l,t=some l) (λi s=>s.length<=i) ?_ ?_ BIG 0 [] (cC (by omega)) (by simp)
 ·intro k i s hi hs ih;simp only[fA,Int.ofNat_lt,hi,decide_true,cond_true,bE hi,Option.bind_some,aDo,bG (show i<9223372036854775807 by omega)];cases btw (w64 (w64 (v.Strips[i].P*x)+w64 (v.Strips[i].Q*y))) v.Strips[i].Low v.Strips[i].High with
  |true=>exact ih s (by omega)
  | false=>
   simp only[Bool.not_false,cond_true];rw[eL (by simp;omega),Option.bind_some];exact ih _ (by simp;omega)
 ·intro k i s hi _;have:¬((i:Int)<(v.Strips.length:Int)):=by omega
  simp only[fA,this,decide_false,cond_false,sA];exact⟨s,rfl⟩
def aXg(v:bQ)(x y:Int):Prop:=∃l,oU v x y=some l/\(l.length:Int)<=v.Wrong
def aPs(v:bQ)(s4:List bF)(x5:bF)(x6:List Int):Option (List bF):=
 bif decide ((x6.length:Int)<=v.Wrong) then((app 16 s4 ([x5])).bind λx8=>some x8) else(some s4)
theorem cBa(v:bQ)(hl:v.Strips.length<=1000)(again0:Int->List bF->Option (List bF))(x t7 t8:Int)(n:Nat)(hn:n<=100):∀(k i:Nat) (s:List bF),n-i<k->s.length+(n-i)<=1000000->
  ∃s',mP (aPs v) again0 v x t7 t8 (n:Int) k (i:Int) s=again0 (w64 (t8+1)) s'/\(∀p∈s,p∈s')/\s'.length<=s.length+(n-i)/\(∀j:Nat,i<=j->j<n->aXg v x j->⟨x,j⟩∈s')/\∀p∈s',p∈s\/(p.x=x/\0<=p.y/\p.y<(n:Int)):=by
 intro k
 induction k with
 |zero=>intro i s h;omega
 | succ k ih=>
  intro i s hk hs
  by_cases h:i<n
  ·obtain⟨l,hw⟩:=bAq v x i hl;simp only[mP,Int.ofNat_lt,h,decide_true,cond_true,bRc,hw,Option.bind_some,bG (show i<9223372036854775807 by omega)];cases hd:decide ((l.length:Int)<=v.Wrong) with
   | true=>
    simp only[aPs,hd,cond_true];rw[eL (by simp;omega),Option.bind_some,Option.bind_some];obtain⟨s',h1,h2,h3,h4,h5⟩:=ih (i+1) (s++[⟨x,i⟩]) (by omega) (by simp;omega);refine⟨s',h1,λp hp=>h2 p (List.mem_append.2 (.inl hp)),by simp at h3;omega,λj hj hjn ht=>?_,λp hp=>?_⟩
    ·rcases Nat.lt_or_ge i j with hij|hij
     ·exact h4 j hij hjn ht
     ·have:j=i:=by omega
      subst this;exact h2 _ (List.mem_append.2 (.inr (by simp)))
    ·rcases h5 p hp with h|h
     ·rcases List.mem_append.1 h with h|h
      ·exact .inl h
      ·rw[List.mem_singleton.1 h];refine .inr ⟨rfl,by simp only;omega,by simp only;omega⟩
     ·exact .inr h
   | false=>
    simp only[aPs,hd,cond_false,Option.bind_some];obtain⟨s',h1,h2,h3,h4,h5⟩:=ih (i+1) s (by omega) (by omega);refine⟨s',h1,h2,by omega,λj hj hjn ht=>?_,h5⟩
    rcases Nat.lt_or_ge i j with hij|hij
    ·exact h4 j hij hjn ht
    ·have:j=i:=by omega
     subst this;obtain⟨l',h7,h6⟩:=ht;rw[hw] at h7;cases h7;simp only[decide_eq_false_iff_not] at hd;exact absurd h6 hd
  ·have h':¬((i:Int)<(n:Int)):=by omega
   simp only[mP,h',decide_false,cond_false,aEq,aEp];exact⟨s,rfl,λp hp=>hp,by omega,λj hj hjn=>by omega,λp hp=>.inl hp⟩
theorem cBq(v:bQ)(hl:v.Strips.length<=1000)(n:Nat)(hn:n<=100)(hs1:w64 (v.Size+1)=(n:Int)):∀(k i:Nat) (s:List bF),n-i<k->s.length+(n-i)*n<=1000000->
  ∃s',iH (aPs v) v (n:Int) k (i:Int) s=some s'/\(∀p∈s,p∈s')/\s'.length<=s.length+(n-i)*n/\(∀a j:Nat,i<=a->a<n->j<n->aXg v a j->⟨a,j⟩∈s')/\∀p∈s',p∈s\/((0<=p.x/\p.x<(n:Int))/\0<=p.y/\p.y<(n:Int)):=by
 intro k
 induction k with
 |zero=>intro i s h;omega
 | succ k ih=>
  intro i s hk hs
  by_cases h:i<n
  ·have e1:(n-i)*n=(n-(i+1))*n+n:=by
    rw[show n-i=(n-(i+1))+1 by omega,Nat.add_mul,Nat.one_mul]
   have hb:n-0<BIG:=cC (by omega);simp only[iH,Int.ofNat_lt,h,decide_true,cond_true,hs1];obtain⟨s1,a1,a2,a3,a4,a5⟩:=cBa v hl (iH (aPs v) v (n:Int) k) (i:Int) (n:Int) (i:Int) n hn BIG 0 s hb (by omega);obtain⟨s',b1,b2,b3,b4,b5⟩:=ih (i+1) s1 (by omega) (by omega);refine⟨s',?_,λp hp=>b2 p (a2 p hp),by omega,λa j ha han hj ht=>?_,λp hp=>?_⟩
   ·have a1:mP (aPs v) (iH (aPs v) v (n:Int) k) v (i:Int) (n:Int) (i:Int) (n:Int) BIG 0 s=_:=a1;rw[a1,bG (show i<9223372036854775807 by omega)];exact b1
   ·rcases Nat.lt_or_ge i a with hia|hia
    ·exact b4 a j hia han hj ht
    ·have:a=i:=by omega
     subst this;exact b2 _ (a4 j (Nat.zero_le _) hj ht)
   ·rcases b5 p hp with h'|h'
    ·rcases a5 p h' with h'|⟨h1,h2⟩
     ·exact .inl h'
     ·exact .inr ⟨by omega,h2⟩
    ·exact .inr h'
  ·have h':¬((i:Int)<(n:Int)):=by omega
   simp only[iH,h',decide_false,cond_false,aEo];exact⟨s,rfl,λp hp=>hp,by omega,λa j ha han=>by omega,λp hp=>.inl hp⟩
theorem bLu{v:bQ}(hl:v.Strips.length<=1000)(h0:0<=v.Size)(h1:v.Size<=40):∃l,yR v=some l/\l.length<=2000/\(∀x y:Int,0<=x->x<=v.Size->0<=y->y<=v.Size->aXg v x y->⟨x,y⟩∈l)/\∀p∈l,(0<=p.x/\p.x<=40)/\0<=p.y/\p.y<=40:=by
 obtain⟨n,hn⟩:∃n:Nat,v.Size+1=(n:Int):=⟨(v.Size+1).toNat,by omega⟩;have hw:w64 (v.Size+1)=(n:Int):=by rw[cG (by omega) (by omega)];exact hn
 have hb:n-0<BIG:=cC (by omega);have hn41:n<=41:=by omega
 have hnn:(n-0)*n<=41*41:=Nat.mul_le_mul (by omega) hn41;obtain⟨s',a1,a2,a3,a4,a5⟩:=cBq v hl n (by omega) hw BIG 0 [] hb (by simp only[List.length_nil];omega);refine⟨s',?_,by simp only[List.length_nil] at a3;omega,λx y hx hx' hy hy' ht=>?_,λp hp=>?_⟩
 ·unfold yR aRz aFl;rw[Option.bind_some,hw];have a1:iH (aPs v) v (n:Int) BIG 0 []=some s':=a1;have e:(λ(s4:List bF) (x5:bF) (x6:List Int)=>bif decide ((x6.length:Int)<=v.Wrong) then((app 16 s4 ([x5])).bind λx8=>some x8) else(some s4))=aPs v:=rfl;rw[e,a1]
  rfl
 ·have:=a4 x.toNat y.toNat (Nat.zero_le _) (by omega) (by omega) (by rw[Int.toNat_of_nonneg hx,Int.toNat_of_nonneg hy];exact ht)
  rwa[Int.toNat_of_nonneg hx,Int.toNat_of_nonneg hy] at this
 ·rcases a5 p hp with h|h
  ·simp at h
  ·omega
theorem wF{a b p q:Int}(ha:0<=a)(ha':a<=p)(hb:0<=b)(hb':b<=q):0<=a*b/\a*b<=p*q:=
 ⟨Int.mul_nonneg ha hb,Int.mul_le_mul ha' hb' hb (by omega)⟩
theorem bZl{B h h' q X:Int}(hA:0<=X)(hh:0<h)(hle:h<=h')(H:X+B*h<=h*q):X+B*h'<=h'*q:=by
 have e1:h*(q-B)=h*q-B*h:=by rw[Int.mul_sub,Int.mul_comm B h]
 have e2:h'*(q-B)=h'*q-B*h':=by rw[Int.mul_sub,Int.mul_comm B h']
 have h1:0<=h*(q-B):=by omega
 have h2:0<=q-B:=by
  rcases Int.lt_or_le (q-B) 0 with hn|hn
  ·have:=Int.mul_neg_of_pos_of_neg hh hn;omega
  ·exact hn
 have h3:h*(q-B)<=h'*(q-B):=Int.mul_le_mul_of_nonneg_right hle h2
 omega
def gap(n lo hi:Int):Int:=max (max 0 (lo-n)) (n-hi)
abbrev zK(x y hx hy:Int)(b:dZ):Prop:=(gap x b.Left b.Right*gap x b.Left b.Right)*(hy*hy)+(gap y b.Bottom b.Top*gap y b.Bottom b.Top)*(hx*hx)<=(hx*hx)*(hy*hy)
theorem bZz{a b:Int}(h0:0<=a)(h:a<=b):a*a<=b*b:=Int.mul_le_mul h h h0 (by omega)
theorem bAo{x y hx hy hx' hy':Int}{b:dZ}(h1:1<=hx)(h2:hx<=hx')(h3:1<=hy)(h4:hy<=hy')(h:zK x y hx hy b):zK x y hx' hy' b:=by
 unfold zK at*;have hsx:=bZz (by omega) h2;have hsy:=bZz (by omega) h4;have px:0<hx*hx:=Int.mul_pos (by omega) (by omega);have py:0<hy*hy:=Int.mul_pos (by omega) (by omega);have px':0<hx'*hx':=Int.mul_pos (by omega) (by omega);have gx:0<=gap x b.Left b.Right*gap x b.Left b.Right:=Int.mul_nonneg (by unfold gap;omega) (by unfold gap;omega);have gy:0<=gap y b.Bottom b.Top*gap y b.Bottom b.Top:=Int.mul_nonneg (by unfold gap;omega) (by unfold gap;omega);have s1:=bZl (Int.mul_nonneg gx (Int.le_of_lt py)) px hsx h;have s1':(gap y b.Bottom b.Top*gap y b.Bottom b.Top)*(hx'*hx')+(gap x b.Left b.Right*gap x b.Left b.Right)*(hy*hy)<=(hy*hy)*(hx'*hx'):=by
  rw[Int.mul_comm (hy*hy) (hx'*hx')];omega
 have s2:=bZl (Int.mul_nonneg gy (Int.le_of_lt px')) py hsy s1';rw[Int.mul_comm (hy'*hy') (hx'*hx')] at s2
 omega
end Go.Am
