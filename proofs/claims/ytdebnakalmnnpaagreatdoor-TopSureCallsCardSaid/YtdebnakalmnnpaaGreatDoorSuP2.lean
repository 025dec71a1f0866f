/- Lines: what a call that is sure says of a truth. -/
import Derived.Test.YtdebnakalmnnpaaGreatDoorSuP1
namespace Go.Am
set_option maxRecDepth 10000
theorem bJu(a b:Int):(a*b)*(a*b)=(a*a)*(b*b):=by
 rw[Int.mul_assoc,<-Int.mul_assoc b a b,Int.mul_comm b a,Int.mul_assoc a b b,<-Int.mul_assoc]
theorem bZe{n lo hi:Int}(h1:0<=n)(h2:n<=40)(h3:0<=lo)(h4:lo<=40)(h5:0<=hi)(h6:hi<=40):0<=gap n lo hi/\gap n lo hi<=40:=by unfold gap;omega
structure aLm(m:iU)(b:dZ):Prop where
 x:0<=m.X/\m.X<=40
 y:0<=m.Y/\m.Y<=40
 hx:1<=m.HalfX/\m.HalfX<=9
 hy:1<=m.HalfY/\m.HalfY<=9
 b:aNf b=true
theorem aVh{b:dZ}:aNf b=true↔0<=b.Left/\b.Left<=b.Right/\b.Right<=40/\0<=b.Bottom/\b.Bottom<=b.Top/\b.Top<=40:=by
 simp[aNf,and_assoc]
theorem cDn{m:iU}{b:dZ}(h:aLm m b):(0<=gap m.X b.Left b.Right/\gap m.X b.Left b.Right<=40)/\(0<=gap m.Y b.Bottom b.Top/\gap m.Y b.Bottom b.Top<=40):=by
 have hb:=aVh.1 h.b;have:=h.x;have:=h.y;exact⟨bZe (by omega) (by omega) (by omega) (by omega) (by omega) (by omega),bZe (by omega) (by omega) (by omega) (by omega) (by omega) (by omega)⟩
theorem bAp{m:iU}{b:dZ}(h:aLm m b):sP m b=some (decide (zK m.X m.Y m.HalfX m.HalfY b)):=by
 obtain⟨⟨g0,g1⟩,g2,g3⟩:=cDn h;obtain⟨⟨x0,x1⟩,⟨y0,y1⟩,⟨a0,a1⟩,⟨c0,c1⟩,hb⟩:=h;have hb:=aVh.1 hb;have e3:pM m.X b.Left b.Right=some (gap m.X b.Left b.Right):=by
  unfold pM gap;rw[cG (by omega) (by omega),cG (by omega) (by omega)]
 have e4:pM m.Y b.Bottom b.Top=some (gap m.Y b.Bottom b.Top):=by
  unfold pM gap;rw[cG (by omega) (by omega),cG (by omega) (by omega)]
 unfold sP zK;rw[e3,Option.bind_some,e4,Option.bind_some]
 generalize gap m.X b.Left b.Right=gx at*
 generalize gap m.Y b.Bottom b.Top=gy at*
 have p1:=wF g0 g1 (show 0<=m.HalfY by omega) c1;have p2:=wF g2 g3 (show 0<=m.HalfX by omega) a1;have p3:=wF (show 0<=m.HalfX by omega) a1 (show 0<=m.HalfY by omega) c1;have q1:=wF p1.1 p1.2 p1.1 p1.2;have q2:=wF p2.1 p2.2 p2.1 p2.2;have q3:=wF p3.1 p3.2 p3.1 p3.2;rw[cG (n:=gx*m.HalfY) (by omega) (by omega),cG (n:=gy*m.HalfX) (by omega) (by omega),cG (n:=m.HalfX*m.HalfY) (by omega) (by omega),
  cG (n:=(gx*m.HalfY)*(gx*m.HalfY)) (by omega) (by omega),cG (n:=(gy*m.HalfX)*(gy*m.HalfX)) (by omega) (by omega),cG (n:=(m.HalfX*m.HalfY)*(m.HalfX*m.HalfY)) (by omega) (by omega),cG (by omega) (by omega)]
 rw[bJu gx,bJu gy,bJu m.HalfX]
theorem bFz{m:iU}{b:dZ}(h:aLm m b):fN m b=some (decide (zK m.X m.Y m.HalfX m.HalfY b)):=by
 obtain⟨⟨g0,g1⟩,g2,g3⟩:=cDn h;obtain⟨⟨x0,x1⟩,⟨y0,y1⟩,⟨a0,a1⟩,⟨c0,c1⟩,hb⟩:=h;have hb:=aVh.1 hb;have e3:mF m.X b.Left b.Right=some (gap m.X b.Left b.Right):=by
  unfold mF gap;rw[cG (by omega) (by omega),cG (by omega) (by omega)]
  congr 1;omega
 have e4:mF m.Y b.Bottom b.Top=some (gap m.Y b.Bottom b.Top):=by
  unfold mF gap;rw[cG (by omega) (by omega),cG (by omega) (by omega)]
  congr 1;omega
 unfold fN zK;rw[e3,Option.bind_some,e4,Option.bind_some]
 generalize gap m.X b.Left b.Right=gx at*
 generalize gap m.Y b.Bottom b.Top=gy at*
 have p1:=wF g0 g1 g0 g1;have p2:=wF g2 g3 g2 g3;have p3:=wF (show 0<=m.HalfX by omega) a1 (show 0<=m.HalfX by omega) a1;have q1:=wF p1.1 p1.2 (show 0<=m.HalfY by omega) c1;have q2:=wF p2.1 p2.2 (show 0<=m.HalfX by omega) a1;have q3:=wF p3.1 p3.2 (show 0<=m.HalfY by omega) c1;have r1:=wF q1.1 q1.2 (show 0<=m.HalfY by omega) c1;have r2:=wF q2.1 q2.2 (show 0<=m.HalfX by omega) a1;have r3:=wF q3.1 q3.2 (show 0<=m.HalfY by omega) c1;rw[cG (n:=gx*gx) (by omega) (by omega),cG (n:=gy*gy) (by omega) (by omega),cG (n:=m.HalfX*m.HalfX) (by omega) (by omega),
  cG (n:=gx*gx*m.HalfY) (by omega) (by omega),cG (n:=gy*gy*m.HalfX) (by omega) (by omega),cG (n:=m.HalfX*m.HalfX*m.HalfY) (by omega) (by omega),
  cG (n:=gx*gx*m.HalfY*m.HalfY) (by omega) (by omega),cG (n:=gy*gy*m.HalfX*m.HalfX) (by omega) (by omega),cG (n:=m.HalfX*m.HalfX*m.HalfY*m.HalfY) (by omega) (by omega),cG (by omega) (by omega)]
 rw[Int.mul_assoc (gx*gx),Int.mul_assoc (gy*gy),Int.mul_assoc (m.HalfX*m.HalfX)]
theorem bDh(l:List bF)(hl:l.length<=9223372036854775807)(f:bF->Option Bool)(g:bF->Bool)(hf:∀x∈l,f x=some (g x)):eT l f=some (l.any g):=by
 have main:∀k (i:Nat),l.length-i<k->i<=l.length->∃r:Int,cZ l f (l.length:Int) k (i:Int)=some r/\decide (0<=r)=(l.drop i).any g:=by
  intro k
  induction k with
  |zero=>intro i h;omega
  | succ k ih=>
   intro i hk hi
   by_cases h:i<l.length
   ·simp only[cZ,Int.ofNat_lt,h,decide_true,cond_true,bE h,Option.bind_some,hf _ (List.getElem_mem h),bG (show i<9223372036854775807 by omega)];rw[List.drop_eq_getElem_cons h,List.any_cons];cases g l[i] with
    |true=>exact⟨i,rfl,by simp⟩
    | false=>
     obtain⟨r,h1,h2⟩:=ih (i+1) (by omega) (by omega);exact⟨r,h1,by simpa using h2⟩
   ·have e:i=l.length:=by omega
    subst e;simp only[cZ,Int.lt_irrefl,decide_false,cond_false,mV];exact⟨-1,rfl,by simp⟩
 unfold eT kR;obtain⟨r,h1,h2⟩:=main BIG 0 (cC (by omega)) (Nat.zero_le _);have h1:cZ l f (l.length:Int) BIG 0=some r:=h1;rw[h1,Option.bind_some,h2]
 rfl
structure bRn(v:bQ):Prop where
 len:v.Strips.length<=8
 size:0<=v.Size/\v.Size<=40
 hx:1<=v.HalfX.Low/\v.HalfX.Low<=v.HalfX.High/\v.HalfX.High<=9
 hy:1<=v.HalfY.Low/\v.HalfY.Low<=v.HalfY.High/\v.HalfY.High<=9
theorem bYl{v:bQ}(h:aKs v=true):bRn v:=by
 simp only[aKs,Bool.and_eq_true,bMc,decide_eq_true_eq,Bool.not_eq_true',decide_eq_false_iff_not] at h;obtain⟨⟨⟨⟨⟨_,h2⟩,h3⟩,_⟩,h5⟩,h6⟩:=h;exact⟨by omega,h3,by omega,by omega⟩
theorem bVn{v:bQ}{b:dZ}(hv:bRn v)(hb:aNf b=true){m:iU}(hX:0<=m.X/\m.X<=v.Size)(hY:0<=m.Y/\m.Y<=v.Size)(hHX:v.HalfX.Low<=m.HalfX/\m.HalfX<=v.HalfX.High)(hHY:v.HalfY.Low<=m.HalfY/\m.HalfY<=v.HalfY.High)
  (ht:aXg v m.X m.Y):
  ∃c,zT v b=some c/\(c=1\/c=2\/c=3)/\(c=1->fN m b=some true)/\(c=2->fN m b=some false):=by
 obtain⟨l,hl,hlen,hmem,hp⟩:=bLu (v:=v) (by have:=hv.len;omega) hv.size.1 hv.size.2;have hm:(⟨m.X,m.Y⟩:bF)∈l:=hmem _ _ hX.1 hX.2 hY.1 hY.2 ht;have hsx:=hv.hx;have hsy:=hv.hy;have hMI:aLm m b:=⟨by have:=hv.size;omega,by have:=hv.size;omega,by omega,by omega,hb⟩;have small_in:∀p∈l,aLm ⟨p.x,p.y,v.HalfX.Low,v.HalfY.Low⟩ b:=λp hpl=>⟨(hp p hpl).1,(hp p hpl).2,by simp only;omega,by simp only;omega,hb⟩;have large_in:∀p∈l,aLm ⟨p.x,p.y,v.HalfX.High,v.HalfY.High⟩ b:=λp hpl=>⟨(hp p hpl).1,(hp p hpl).2,by simp only;omega,by simp only;omega,hb⟩;have c1:=bDh l (by omega) (λy4=>yP y4 v b) (λp=>!decide (zK p.x p.y v.HalfX.Low v.HalfY.Low b)) (λp hpl=>by
  unfold yP aFn;rw[Option.bind_some,bAp (small_in p hpl)];rfl)
 have c2:=bDh l (by omega) (λy4=>yQ y4 v b) (λp=>decide (zK p.x p.y v.HalfX.High v.HalfY.High b)) (λp hpl=>by
  unfold yQ aFm;rw[Option.bind_some,bAp (large_in p hpl)];rfl)
 have hne:decide ((l.length:Int)=0)=false:=decide_eq_false (by
  intro h;have:l=[]:=List.length_eq_zero_iff.1 (by omega);rw[this] at hm;simp at hm)
 unfold zT;rw[hl,Option.bind_some,hne,cond_false,c1,Option.bind_some];cases h1:l.any (λp=>!decide (zK p.x p.y v.HalfX.Low v.HalfY.Low b)) with
 | false=>
  refine⟨1,rfl,.inl rfl,λ_=>?_,λh=>by cases h⟩;rw[bFz hMI];have:=(List.any_eq_false.1 h1) _ hm;simp only[Bool.not_eq_true',decide_eq_false_iff_not,Decidable.not_not] at this;rw[decide_eq_true (bAo hsx.1 hHX.1 hsy.1 hHY.1 this)]
 | true=>
  rw[Bool.not_true,cond_false,c2,Option.bind_some];cases h2:l.any (λp=>decide (zK p.x p.y v.HalfX.High v.HalfY.High b)) with
  | false=>
   refine⟨2,rfl,.inr (.inl rfl),λh=>(by cases h),λ_=>?_⟩;rw[bFz hMI];have:=(List.any_eq_false.1 h2) _ hm;simp only[decide_eq_true_eq] at this;rw[decide_eq_false λh=>this (bAo (by omega) hHX.2 (by omega) hHY.2 h)]
  |true=>exact⟨3,rfl,.inr (.inr rfl),λh=>(by cases h),λh=>by cases h⟩
end Go.Am
