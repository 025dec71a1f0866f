/- Several texts, one behind the other. -/
import Derived.Test.YtiohgpipanopaaaGreatPlayPlain6
import Derived.Test.YtiohgpipanopaaaGreatPlayRealLaw
section
namespace Go.Am.Py
def timesR(p:aI)(order:List aG):List aX×List aX×Int:=
 bif valid p then(bif zS p order then(spansOf p (aAc p order).1 (zB p order).1,spansOf p (aAc p order).2 (zB p order).2,0) else([],[],81)) else([],[],80)
theorem play_Times_all(p:aI)(hs:smallP p)(order:List aG)(hl:order.length<=1000000):mY p order=some (timesR p order):=by
 unfold timesR;cases hv:valid p with
 |false=>simp[mY,play_Check_eq p hs,hv]
 | true=>
  have hp:=VP_of hv;cases ho:zS p order with
  |false=>simp[mY,play_Check_eq p hs,hv,aHj hp order hl,ho]
  |true=>rw[bBt hp hv hl ho];rfl
end Go.Am.Py
end
section
namespace Go.Am.Py
def bit(d:Int)(j:Nat):Bool:=decide (bQm (d.fdiv (2^(min j 64))) 1=1)
def cnt(d:Int):Nat:=((List.range 6).filter λj=>bit d j).length
theorem bVc:∀d:Fin 64,∀j:Fin 6,bOr ((d.val:Nat):Int) (w64 (1*2^(min j.val 64)))=((d.val|||2^j.val:Nat):Int):=by decide+kernel
theorem bQs:∀d:Fin 64,∀j:Fin 6,∀k:Fin 6,bit ((d.val|||2^j.val:Nat):Int) k.val=(decide (j=k)||bit ((d.val:Nat):Int) k.val):=by decide+kernel
theorem bQq:∀d:Fin 64,∀j:Fin 6,bit ((d.val:Nat):Int) j.val=false->cnt ((d.val|||2^j.val:Nat):Int)=cnt ((d.val:Nat):Int)+1:=by decide+kernel
theorem bMy:∀n:Fin 7,∀d:Fin 64,d.val<2^n.val->(d.val=2^n.val-1↔cnt ((d.val:Nat):Int)=n.val):=by decide+kernel
theorem aZl:∀j:Fin 6,bit 0 j.val=false:=by decide+kernel
theorem bQr:∀n:Fin 7,∀d:Fin 64,∀j:Fin 6,d.val<2^n.val->j.val<n.val->(d.val|||2^j.val)<2^n.val:=by decide+kernel
theorem bVq:∀n:Fin 7,w64 (w64 (1*2^(min n.val 64))-1)=((2^n.val-1:Nat):Int):=by decide+kernel
def aFj(p:aI):Int:=w64 (w64 (1*2^(min p.Jobs.length 64))-1)
def mv(old:Option (List aG))(s:aG):Int:=match old with|none=>0|some l=>bif decide (s∈l) then 0 else 1
theorem aQs(old:Option (List aG))(s:aG):0<=mv old s/\mv old s<=1:=by
 unfold mv;cases old with
 |none=>simp
 | some l=>
  simp only;cases hd:decide (s∈l)<;>simp
theorem aSk(l:List aG)(hl:l.length<=9223372036854775807)(v:aG):kU l v=some (decide (v∈l)):=by
 have key:mH l v=some (match l.findIdx? (λx=>decide (v=x)) with|some i=>(i:Int)|none=> -1):=by
  unfold mH;rw[dD (S:=Unit) (λk i _=>gA l l.length v k i) l.length (λi _=>some (match(l.drop i).findIdx? (λx=>decide (v=x)) with|some j=>((i+j:Nat):Int)|none=> -1)) (λ_ _=>True) ?_ ?_ BIG () (bI hl) trivial]
  ·simp
  ·intro k i _ hi _ ih;have:=ih () trivial;simp only[gA,aY hi,Option.bind_some,aZ (show i<9223372036854775807 by omega),Int.ofNat_lt,hi,decide_true,cond_true,this];rw[List.drop_eq_getElem_cons hi,List.findIdx?_cons]
   by_cases h:v=l[i]
   ·simp[h]
   ·simp only[h,decide_false,cond_false,Bool.false_eq_true,if_false];cases List.findIdx? (λx=>decide (v=x)) (List.drop (i+1) l) with
    |none=>rfl
    |some j=>simp;omega
  ·intro k _ _
   simp[gA,rL]
 unfold kU;rw[key];cases h:List.findIdx? (λx=>decide (v=x)) l with
 | none=>
  simp at h
  have:v∉l:=λhm=>h v hm rfl
  simp[this]
 | some j=>
  have:v∈l:=by
   obtain⟨h1,h2,_⟩:=List.findIdx?_eq_some_iff_getElem.1 h
   simp at h2
   rw[h2];exact List.getElem_mem h1
  simp[this]
theorem bVx(s:dR)(hl:∀l,s.old=some l->l.length<=9223372036854775807)(x:aG):oL s x=some (mv s.old x):=by
 unfold oL mv;cases h:s.old with
 |none=>simp
 | some l=>
  simp only[Option.isNone_some,cond_false,Option.getD_some,aSk l (hl l h),Option.bind_some];cases decide (x∈l)<;>rfl
def aMk(p:aI)(x:aH)(n:Int):Option bW:=bif decide (x.day.number<n) then sP p n else some x.day
structure SStep(p:aI)(days:Int)(old:Option (List aG))(x:aH)(s:aG)(x':aH):Prop where
 job:isJ p s.Job
 new:bit x.done s.Job.toNat=false
 after:∀a∈(jobAt p s.Job).After,bit x.done a.toNat=true
 day0:x.day.number<=s.Day
 days:s.Day<days
 due:s.Day<=(jobAt p s.Job).Due
 court0:0<=s.Court
 court:s.Court.toNat<oV p
 plays:∃now b e d',aMk p x s.Day=some now/\lA now p s (jobAt p s.Job).Length.High=some (b,e,d')/\e<=(nZ p s.Day s.Court).High/\x'=⟨d',bOr x.done (w64 (1*2^(min s.Job.toNat 64))),w64 (x.moves-mv old s)⟩
 moves:0<=x'.moves
def aFc(p:aI)(days:Int)(old:Option (List aG)):aH->List aG->Prop
 |x,[]=>x.done=aFj p
 |x,s::l=>x.done≠aFj p/\∃x',SStep p days old x s x'/\aFc p days old x' l
abbrev uQ:=List (aH×Int)
structure bCs(p:aI)(days:Int)(old:Option (List aG))(S:uQ)(c:Nat):Prop where
 dead:∀y,1<=bR y 0 S->c<=cnt y.done->∀l,¬aFc p days old y l
 rng:∀y,-9223372036854775808<=bR y 0 S/\bR y 0 S<=9223372036854775807
def cAn(S S':uQ)(c:Nat):Prop:=∀y,1<=bR y 0 S'->1<=bR y 0 S\/c<=cnt y.done
theorem aAm{α β:Type}[DecidableEq α](a b:α)(z v:β):∀l:List (α×β),bR b z (eK a v l)=if b=a then v else bR b z l
 |[]=>by by_cases h:b=a<;>simp[eK,bR,h]
 | (k,u)::l=>by
  by_cases h1:a=k
  ·subst h1
   by_cases h2:b=a
   ·simp[eK,bR,h2]
   ·simp[eK,bR,h2]
  ·by_cases h2:b=k
   ·subst h2
    simp[eK,bR,h1,Ne.symm h1]
   ·simp[eK,bR,h1,h2,aAm a b z v l]
structure Rep(p:aI)(old:Option (List aG))(m0:Int)(pre:List aG)(x:aH):Prop where
 ord:Ord p pre
 num:0<=x.day.number/\x.day.number.toNat<p.Days.length
 le:∀o∈pre,o.Day<=x.day.number
 last:pre=[]/\x.day.number=0\/∃o∈pre,o.Day=x.day.number
 day:DayP p pre (dB p pre (fV p) pre.length).2 x.day
 done:∃d:Nat,x.done=d/\d<2^p.Jobs.length
 bits:∀j,isJ p j->(bit x.done j.toNat=true↔∃o∈pre,o.Job=j)
 count:cnt x.done=pre.length
 moves:x.moves=m0-(pre.map (mv old)).sum
 pos:0<=x.moves
 m0:m0<=1000
theorem aDp{p:aI}{pre l:List aG}{t:List Int}:∀i,i<=pre.length->dB p (pre++l) t i=dB p pre t i
 |0,_=>rfl
 | i+1,h=>by
  have h':i<pre.length:=by omega
  have e:(pre++l).getD i default=pre.getD i default:=by simp[List.getD,List.getElem?_append_left h']
  have ih:=aDp (p:=p) (l:=l) (t:=t) i (show i<=pre.length by omega);simp only[dB,ih,e];rw[List.take_append_of_le_length (show i<=pre.length by omega)]
theorem bOz{n:Nat}(h:n<=6):2^n<=64:=by
 have:2^n<=2^6:=Nat.pow_le_pow_right (by omega) h
 simpa using this
theorem Ord.push{p:aI}{pre:List aG}(h:Ord p pre){s:aG}(hs:Seat p s)(hdue:s.Day<=(jobAt p s.Job).Due)(hne:∀o∈pre,o.Job≠s.Job)(hle:∀o∈pre,o.Day<=s.Day)(ha:∀a∈(jobAt p s.Job).After,∃o∈pre,o.Job=a):Ord p (pre++[s]):=by
 have get:∀i (hi:i<(pre++[s]).length),(∃h:i<pre.length,(pre++[s])[i]=pre[i])\/(i=pre.length/\(pre++[s])[i]=s):=by
  intro i hi
  by_cases h1:i<pre.length
  ·exact .inl ⟨h1,List.getElem_append_left h1⟩
  ·have:i=pre.length:=by simp at hi;omega
   subst this;exact .inr ⟨rfl,by simp⟩
 refine⟨λi hi=>?_,λi hi=>?_,λi hi j hj=>?_,λi hi j hj=>?_,λi hi a haa=>?_⟩
 ·rcases get i hi with⟨h1,e⟩|⟨_,e⟩<;>rw[e]
  ·exact h.seat i h1
  ·exact hs
 ·rcases get i hi with⟨h1,e⟩|⟨_,e⟩<;>rw[e]
  ·exact h.due i h1
  ·exact hdue
 ·rcases get i hi with⟨h1,e⟩|⟨h1,e⟩<;>rw[e]
  ·have e2:(pre++[s])[j]'(by simp;omega)=pre[j]'(by omega):=List.getElem_append_left (by omega);rw[e2];exact h.fresh i h1 j hj
  ·have e2:(pre++[s])[j]'(by simp;omega)=pre[j]'(by omega):=List.getElem_append_left (by omega);rw[e2];exact hne _ (List.getElem_mem _)
 ·rcases get i hi with⟨h1,e⟩|⟨h1,e⟩<;>rw[e]
  ·have e2:(pre++[s])[j]'(by simp;omega)=pre[j]'(by omega):=List.getElem_append_left (by omega);rw[e2];exact h.sorted i h1 j hj
  ·have e2:(pre++[s])[j]'(by simp;omega)=pre[j]'(by omega):=List.getElem_append_left (by omega);rw[e2];exact hle _ (List.getElem_mem _)
 ·rcases get i hi with⟨h1,e⟩|⟨h1,e⟩
  ·rw[e] at haa;obtain⟨j,hj,e3⟩:=h.after i h1 a haa;exact⟨j,hj,by rw[List.getElem_append_left (by omega)];exact e3⟩
  ·rw[e] at haa;obtain⟨o,ho,e3⟩:=ha a haa;obtain⟨j,hj,rfl⟩:=List.getElem_of_mem ho;exact⟨j,by omega,by rw[List.getElem_append_left hj];exact e3⟩
theorem aYm{p:aI}{old:Option (List aG)}{m0:Int}{pre:List aG}{x:aH}(h:Rep p old m0 pre x):pre.length<=6:=by
 rw[<-h.count];unfold cnt;have:=List.length_filter_le (λj=>bit x.done j) (List.range 6)
 simpa using this
theorem Rep.bounds{p:aI}(hp:VP p){old:Option (List aG)}{m0:Int}{pre:List aG}{x:aH}(h:Rep p old m0 pre x):
  ∀o∈pre,0<=cH (dB p pre (fV p) pre.length).2 o.Job/\cH (dB p pre (fV p) pre.length).2 o.Job<=1000000000000:=by
 intro o _;have:=aFn hp h.ord.seat (aNc hp) pre.length (Nat.le_refl _) o.Job.toNat;have:=aYm h;simp only[cH]
 omega
theorem bIp{p:aI}(hp:VP p){old:Option (List aG)}{m0:Int}{pre:List aG}{x:aH}(h:Rep p old m0 pre x){n:Int}(h0:x.day.number<=n)(h1:n.toNat<p.Days.length):
  ∃now,aMk p x n=some now/\now.number=n/\DayP p pre (dB p pre (fV p) pre.length).2 now:=by
 have hn:=h.num;unfold aMk
 by_cases hlt:x.day.number<n
 ·obtain⟨d,hd,od⟩:=aBs hp (n:=n) (by omega) h1;refine⟨d,by simp[hlt,hd],od.number,od.dayP (λo ho e=>?_) _⟩;have:=h.le o ho
  omega
 ·have:x.day.number=n:=by omega
  exact⟨x.day,by simp[hlt],this,h.day⟩
theorem aTu{p:aI}(hp:VP p){old:Option (List aG)}{m0:Int}{pre:List aG}{x:aH}(h:Rep p old m0 pre x){s:aG}(hs:Seat p s)(h0:x.day.number<=s.Day):
  ∃ now,aMk p x s.Day=some now/\now.number=s.Day/\DayP p pre (dB p pre (fV p) pre.length).2 now/\
   lA now p s (jobAt p s.Job).Length.High=some (eG p pre (dB p pre (fV p) pre.length).2 s,eG p pre (dB p pre (fV p) pre.length).2 s+(jobAt p s.Job).Length.High,
    ⟨now.number,now.free.set s.Court (eG p pre (dB p pre (fV p) pre.length).2 s+(jobAt p s.Job).Length.High),now.ends.set s.Job (eG p pre (dB p pre (fV p) pre.length).2 s+(jobAt p s.Job).Length.High)⟩):=by
 obtain⟨now,e1,e2,e3⟩:=bIp hp h h0 hs.day;have hv:=hs.job.vj hp;have hpre:∀o∈pre,isJ p o.Job:=λo ho=>by
  obtain⟨i,hi,rfl⟩:=List.getElem_of_mem ho;exact(h.ord.seat i hi).job
 refine⟨now,e1,e2,e3,aRr hp hpre (h.bounds hp) e3 hs e2.symm ?_⟩;have:=hv.low;have:=hv.le;have:=hv.high
 omega
theorem Rep.step{p:aI}(hp:VP p){days:Int}(hdays:days<=p.Days.length){old:Option (List aG)}{m0:Int}{pre:List aG}{x:aH}(h:Rep p old m0 pre x){s:aG}{x':aH}(hst:SStep p days old x s x'):
  Rep p old m0 (pre++[s]) x'/\Seat p s/\cH (dB p (pre++[s]) (fV p) (pre++[s]).length).2 s.Job<=(nZ p s.Day s.Court).High:=by
 have hn:=h.num;have hd0:=hst.day0;have hd1:=hst.days;have hs:Seat p s:=⟨hst.job,by omega,by omega,hst.court0,hst.court⟩;obtain⟨now,e1,e2,e3,e4⟩:=aTu hp h hs hst.day0;obtain⟨now',b,e,d',f1,f2,f3,rfl⟩:=hst.plays;rw[e1] at f1;cases f1;rw[e4] at f2;simp only[Option.some.injEq,Prod.mk.injEq] at f2;obtain⟨rfl,rfl,rfl⟩:=f2;have hv:=hs.job.vj hp;have hpreS:∀o∈pre,Seat p o:=λo ho=>by
  obtain⟨i,hi,rfl⟩:=List.getElem_of_mem ho;exact h.ord.seat i hi
 have hne:∀o∈pre,o.Job≠s.Job:=λo ho e=>by
  have:=(h.bits _ hs.job).2 ⟨o,ho,e⟩;rw[hst.new] at this;cases this
 have hle:∀o∈pre,o.Day<=s.Day:=λo ho=>Int.le_trans (h.le o ho) hst.day0;have hafter:∀a∈(jobAt p s.Job).After,∃o∈pre,o.Job=a:=λa ha=>by
  have hja:isJ p a:=by
   have:=hv.after a ha;have:=hs.job.2;exact⟨by omega,by omega⟩
  exact(h.bits a hja).1 (hst.after a ha)
 have hlen:=qQ (p:=p) (order:=pre) (takes:=fV p) pre.length;have hrun:(dB p (pre++[s]) (fV p) (pre++[s]).length).2=(dB p pre (fV p) pre.length).2.set s.Job.toNat (eG p pre (dB p pre (fV p) pre.length).2 s+(jobAt p s.Job).Length.High):=by
  have e5:(pre++[s]).length=pre.length+1:=by simp
  rw[e5];have e6:(pre++[s]).getD pre.length default=s:=by simp[List.getD]
  have e7:(pre++[s]).take pre.length=pre:=by simp
  simp only[dB,aDp pre.length (Nat.le_refl _),e6,e7];have e8:cH (fV p) s.Job=(jobAt p s.Job).Length.High:=by rw[fV,sM _ hs.job]
  rw[e8]
 obtain⟨d,hd,hdl⟩:=h.done;have h6:=hs.job.six hp;have hnj:=hp.nj;have hd64:d<64:=Nat.lt_of_lt_of_le hdl (bOz hnj);have hj6:s.Job.toNat<6:=by omega
 have hor:bOr x.done (w64 (1*2^(min s.Job.toNat 64)))=((d|||2^s.Job.toNat:Nat):Int):=by
  rw[hd];exact bVc ⟨d,hd64⟩ ⟨s.Job.toNat,hj6⟩
 have hmv:=aQs old s;have hsum:∀l:List aG,0<=(l.map (mv old)).sum:=by
  intro l
  induction l with
  |nil=>simp
  |cons a l ih=>have:=(aQs old a).1;simp;omega
 have hxm:=h.moves;have hxp:=h.pos;have hm0:=h.m0;have hs0:=hsum pre;refine⟨⟨h.ord.push hs hst.due hne hle hafter,?_,?_,?_,?_,?_,?_,?_,?_,hst.moves,h.m0⟩,hs,?_⟩
 ·simp only;rw[e2];exact⟨hs.day0,hs.day⟩
 ·intro o ho;simp only;rw[e2]
  rcases List.mem_append.1 ho with ho|ho
  ·exact hle o ho
  ·simp at ho;rw[ho];exact Int.le_refl _
 ·right
  exact⟨s,by simp,e2.symm⟩
 ·rw[hrun];exact e3.next hp hlen.2 hpreS hs e2.symm hne (by have:=hv.low;have:=hv.le;omega)
 ·simp only;exact⟨d|||2^s.Job.toNat,hor,bQr ⟨p.Jobs.length,by omega⟩ ⟨d,hd64⟩ ⟨s.Job.toNat,hj6⟩ hdl hs.job.2⟩
 ·intro j hj;have hjs:=hj.six hp;simp only;rw[hor];have:=bQs ⟨d,hd64⟩ ⟨s.Job.toNat,hj6⟩ ⟨j.toNat,by omega⟩;simp only at this;rw[this,<-hd];simp only[Bool.or_eq_true,decide_eq_true_eq,Fin.mk.injEq,h.bits j hj]
  constructor
  ·rintro(h1|⟨o,ho,e⟩)
   ·exact⟨s,by simp,by have:=hs.job.1;have:=hj.1;omega⟩
   ·exact⟨o,List.mem_append.2 (.inl ho),e⟩
  ·rintro⟨o,ho,e⟩
   rcases List.mem_append.1 ho with ho|ho
   ·exact .inr ⟨o,ho,e⟩
   ·simp at ho;subst ho;left;rw[e]
 ·simp only;rw[hor,bQq ⟨d,hd64⟩ ⟨s.Job.toNat,hj6⟩ (by simp only;rw[<-hd];exact hst.new)];simp only;rw[<-hd,h.count]
  simp
 ·simp only;rw[cD (by omega) (by omega),hxm]
  simp
  omega
 ·rw[hrun,yS hlen.2 hs.job];exact f3
end Go.Am.Py
end
section
namespace Go.Am.Py
def aAr(p:aI)(days:Int)(old:Option (List aG))(x:aH)(S0:uQ)(r:Option (List aG×Bool×uQ)):Prop:=
 ∃l b S',r=some (l,b,S')/\(b=true->aFc p days old x l/\l.length+cnt x.done<=6)/\(b=false->l=[]/\(∀l,¬aFc p days old x l)/\bCs p days old S' (cnt x.done)/\cAn S0 S' (cnt x.done))
def aOb(p:aI)(days:Int)(old:Option (List aG))(x:aH)(s:aG):Prop:=∀x' l,SStep p days old x s x'->¬aFc p days old x' l
structure J(p:aI)(days:Int)(old:Option (List aG))(x:aH)(S0 S:uQ):Prop where
 inv:bCs p days old S (cnt x.done+1)
 grow:∀y,1<=bR y 0 S->1<=bR y 0 S0\/y=x\/cnt x.done+1<=cnt y.done
theorem bIi(x:aH){j:Int}(h:0<=j):qV x j=some (bit x.done j.toNat):=by
 simp[qV,chk,h,bit]
section
variable{p:aI}(hp:VP p){days:Int}(hdays:days<=p.Days.length){old:Option (List aG)}(hold:∀l,old=some l->l.length<=9223372036854775807){m0:Int}{pre:List aG}{x:aH}(hx:Rep p old m0 pre x)(hnf:x.done≠aFj p)(S0:uQ)
 (againR:dR->uQ->aH->Option (List aG×Bool×uQ))
 (IH:∀pre' x' S,Rep p old m0 pre' x'->cnt x'.done=cnt x.done+1->bCs p days old S (cnt x.done+1)->aAr p days old x' S (againR (dR.mk p days old) S x'))
include hp hdays hold hx hnf IH
theorem bGu{job:Int}(hj:isJ p job)(hnew:bit x.done job.toNat=false)(hafter:∀a∈(jobAt p job).After,bit x.done a.toNat=true){n:Nat}(hn0:x.day.number<=n)(hn1:(n:Int)<days)(hdue:(n:Int)<=(jobAt p job).Due)
  {now:bW}(hnow:aMk p x n=some now)(again0 again4:Int->uQ->Option (List aG×Bool×uQ))(t51:List bE)(t52 t53:Int)
  (H4:∀S,J p days old x S0 S->(∀c,aOb p days old x ⟨job,n,c⟩)->aAr p days old x S0 (again4 ((n+1:Nat):Int) S))(S:uQ)(hS:J p days old x S0 S):
  aAr p days old x S0 (eD againR again0 again4 p days old job n t51 t52 t53 (p.Days.getD n []) ((p.Days.getD n []).length:Int) x (jobAt p job) now BIG 0 S):=by
 have hnd:=hp.nd;have hnD:n<p.Days.length:=by omega
 have hcl:(p.Days.getD n []).length=oV p:=by rw[aW hnD];exact hp.nc n hnD
 have hc3:oV p<=3:=hp.nc3;refine iZ (λk c S=>eD againR again0 again4 p days old job n t51 t52 t53 (p.Days.getD n []) ((p.Days.getD n []).length:Int) x (jobAt p job) now k c S) (oV p) (aAr p days old x S0)
  (λc S=>J p days old x S0 S/\∀c':Nat,c'<c->aOb p days old x ⟨job,n,c'⟩) ?_ ?_ BIG 0 S (by unfold BIG;omega) ⟨hS,λc' h=>by omega⟩
 ·rintro k c S hc ⟨hJ,hdead⟩ ih
  let s:aG:=⟨job,n,c⟩
  have hs:Seat p s:=⟨hj,by simp only[s];omega,by simpa[s] using hnD,by simp only[s];omega,by simpa[s] using hc⟩;obtain⟨now',e1,e2,e3,e4⟩:=aTu hp hx hs (by simpa[s] using hn0);have:now'=now:=by
   have e1':aMk p x n=some now':=e1;rw[hnow] at e1';cases e1';rfl
  subst this;have hcc:c<(p.Days.getD n []).length:=by rw[hcl];exact hc
  have hspan:idx (p.Days.getD n []) (c:Int)=some (nZ p s.Day s.Court):=by
   have:=hs.span hp
   simpa[s] using this
  have hmv:=aQs old s;have hxp:=hx.pos;have hxm:=hx.moves;have hm0:=hx.m0;have hbnd:x.moves<=1000:=by
   have:0<=(pre.map (mv old)).sum:=by
    clear hxm
    generalize pre=l
    induction l with
    |nil=>simp
    |cons a l ih=>have:=(aQs old a).1;simp;omega
   omega
  have hlt:decide ((c:Int)<((p.Days.getD n []).length:Int))=true:=decide_eq_true (by omega);have hchk:chk (decide (0<=job))=some ():=by simp[chk,hj.1]
  have hmove:oL (dR.mk p days old) s=some (mv old s):=bVx _ (λl h=>hold l h) s;simp only[eD,hlt,cond_true,hspan,hchk,Option.bind_some];rw[show(aG.mk job (n:Int) (c:Int))=s from rfl,hmove];simp only[Option.bind_some];rw[show(jobAt p job).Length.High=(jobAt p s.Job).Length.High from rfl,e4];simp only[Option.bind_some,dJ,cD (show-9223372036854775808<=x.moves-mv old s by omega) (show x.moves-mv old s<=9223372036854775807 by omega),aZ (show c<9223372036854775807 by omega)]
  generalize hb:eG p pre (dB p pre (fV p) pre.length).2 s=b at e4
  let d':bW:=⟨now'.number,now'.free.set s.Court (b+(jobAt p s.Job).Length.High),now'.ends.set s.Job (b+(jobAt p s.Job).Length.High)⟩
  let x':aH:=⟨d',bOr x.done (w64 (1*2^(min s.Job.toNat 64))),w64 (x.moves-mv old s)⟩
  have dead_next:(∀l,SStep p days old x s x'->¬aFc p days old x' l)->∀c':Nat,c'<c+1->aOb p days old x ⟨job,n,c'⟩:=by
   intro h c' hc'
   by_cases hcc':c'=c
   ·subst hcc';intro x'' l hst;obtain⟨n1,b1,e1',d1,a1,a2,a3,rfl⟩:=hst.plays;have a1':aMk p x n=some n1:=a1;rw[hnow] at a1';cases a1';have a2':=a2;rw[show(aG.mk job (n:Int) (c':Int))=s from rfl,e4] at a2';simp only[Option.some.injEq,Prod.mk.injEq] at a2';obtain⟨rfl,rfl,rfl⟩:=a2';exact h l hst
   ·exact hdead c' (by omega)
  cases hlate:decide ((nZ p s.Day s.Court).High<b+(jobAt p s.Job).Length.High) with
  | true=>
   simp only[Bool.true_or,cond_true];refine ih S ⟨hJ,dead_next λl hst=>?_⟩;obtain⟨n1,b1,e1',d1,a1,a2,a3,_⟩:=hst.plays;have a1':aMk p x n=some n1:=a1;rw[hnow] at a1';cases a1';rw[e4] at a2;simp only[Option.some.injEq,Prod.mk.injEq] at a2;obtain⟨_,rfl,_⟩:=a2
   simp at hlate
   omega
  | false=>
   cases hneg:decide (x.moves-mv old s<0) with
   | true=>
    simp only[Bool.false_or,cond_true];refine ih S ⟨hJ,dead_next λl hst=>?_⟩;have:=hst.moves;simp only[x',cD (show-9223372036854775808<=x.moves-mv old s by omega) (show x.moves-mv old s<=9223372036854775807 by omega)] at this
    simp at hneg
    omega
   | false=>
    simp only[Bool.false_or,cond_false];have hst:SStep p days old x s x':=by
     refine⟨hj,hnew,hafter,hn0,hn1,hdue,hs.court0,hs.court,⟨now',b,_,d',e1,e4,by simpa using hlate,rfl⟩,?_⟩;simp only[x',cD (show-9223372036854775808<=x.moves-mv old s by omega) (show x.moves-mv old s<=9223372036854775807 by omega)]
     simpa using hneg
    obtain⟨hrep,_,_⟩:=hx.step hp hdays hst;have hcnt:cnt x'.done=cnt x.done+1:=by rw[hrep.count,hx.count];simp
    obtain⟨l,b',S',hr,ht,hf⟩:=IH _ x' S hrep hcnt hJ.inv;have hx':(aH.mk d' (bOr x.done (w64 (1*2^(min job.toNat 64)))) (x.moves-mv old s))=x':=by
     simp only[x',cD (show-9223372036854775808<=x.moves-mv old s by omega) (show x.moves-mv old s<=9223372036854775807 by omega)]
     rfl
    rw[show(aH.mk ⟨now'.number,now'.free.set s.Court (b+(jobAt p s.Job).Length.High),now'.ends.set s.Job (b+(jobAt p s.Job).Length.High)⟩ (bOr x.done (w64 (1*2^(min job.toNat 64)))) (x.moves-mv old s))=x' from hx',hr];simp only[Option.bind_some];cases b' with
    | true=>
     obtain⟨h1,h2⟩:=ht rfl;simp only[cond_true];rw[eE (by simp;omega)];refine⟨[s]++l,true,S',rfl,λ_=>⟨⟨hnf,x',hst,h1⟩,?_⟩,λh=>by cases h⟩;rw[hcnt] at h2
     simp
     omega
    | false=>
     obtain⟨_,h1,h2,h3⟩:=hf rfl;simp only[cond_false];refine ih S' ⟨⟨by rw[hcnt] at h2;exact h2,λy hy=>?_⟩,dead_next λl _=>h1 l⟩
     rcases h3 y hy with h|h
     ·exact hJ.grow y h
     ·exact .inr (.inr (by rw[hcnt] at h;exact h))
 ·rintro k c S hc ⟨hJ,hdead⟩;have hlt:decide ((c:Int)<((p.Days.getD n []).length:Int))=false:=decide_eq_false (by omega);simp only[eD,hlt,cond_false,rR,rQ,aZ (show n<9223372036854775807 by omega)];refine H4 S hJ λc' x' l hst=>?_;have h0:0<=c':=hst.court0;have h1:c'.toNat<oV p:=hst.court;have e:((c'.toNat:Nat):Int)=c':=by omega
  have:=hdead c'.toNat (by omega);rw[e] at this;exact this x' l hst
theorem bNf{job:Int}(hj:isJ p job)(hnew:bit x.done job.toNat=false)(hafter:∀a∈(jobAt p job).After,bit x.done a.toNat=true)(again0:Int->uQ->Option (List aG×Bool×uQ))(t51:List bE)(t52:Int){t53:Nat}(ht53:t53<9223372036854775807)
  (H0:∀S,J p days old x S0 S->(∀n c,aOb p days old x ⟨job,n,c⟩)->aAr p days old x S0 (again0 ((t53+1:Nat):Int) S))(S:uQ)(hS:J p days old x S0 S):
  aAr p days old x S0 (rP againR again0 p days old job t51 t52 t53 S x (jobAt p job)):=by
 have hnd:=hp.nd;have hnum:=hx.num;have hdue2:=(hj.vj hp).due;unfold rP;have hnn:x.day.number=((x.day.number.toNat:Nat):Int):=by omega
 rw[hnn];refine iZ (λk n S=>eR againR again0 p days old job t51 t52 t53 x (jobAt p job) k n S) (min days ((jobAt p job).Due+1)).toNat (aAr p days old x S0)
  (λi S=>x.day.number<=i/\i<=1000/\J p days old x S0 S/\∀n c,n<(i:Int)->aOb p days old x ⟨job,n,c⟩) ?_ ?_ BIG x.day.number.toNat S (by unfold BIG;omega) ⟨by omega,by omega,hS,λn c h x' l hst=>?_⟩
 ·rintro k n S hn ⟨hn0,hn1,hJ,hdead⟩ ih;have h1:(n:Int)<days:=by omega
  have h2:(n:Int)<=(jobAt p job).Due:=by omega
  have hnD:n<p.Days.length:=by omega
  obtain⟨now,hnow,_,_⟩:=bIp hp hx (n:=n) hn0 (by simpa using hnD);have hidx:idx p.Days (n:Int)=some (p.Days.getD n []):=by rw[aY hnD,aW hnD]
  have main:=bGu hp hdays hold hx hnf S0 againR IH hj hnew hafter hn0 h1 h2 hnow again0 (eR againR again0 p days old job t51 t52 t53 x (jobAt p job) k) t51 t52 t53 (λS' hS' hd=>ih S' ⟨by omega,by omega,hS',λn' c' h'=>by
   by_cases e:n'=n
   ·subst e;exact hd c'
   ·exact hdead n' c' (by omega)⟩) S hJ
  simp only[eR,h1,h2,decide_true,cond_true,Option.bind_some];unfold aMk at hnow;cases hlt:decide (x.day.number<(n:Int)) with
  | true=>
   rw[hlt] at hnow;simp only[cond_true] at hnow|-;simp only[hnow,Option.bind_some,hidx];exact main
  | false=>
   rw[hlt] at hnow;simp only[cond_false,Option.some.injEq] at hnow|-;subst hnow;simp only[hidx,Option.bind_some];exact main
 ·rintro k n S hn ⟨hn0,hn1,hJ,hdead⟩;have hstop:((bif decide ((n:Int)<days) then(some (decide ((n:Int)<=(jobAt p job).Due))) else(some false)):Option Bool)=some false:=by
   rw[cW]
   congr 1
   by_cases h1:(n:Int)<days
   ·have:¬(n:Int)<=(jobAt p job).Due:=by omega
    simp[this]
   ·simp[h1]
  simp only[eR,hstop,Option.bind_some,cond_false,wN,gE,aZ ht53];refine H0 S hJ λn' c' x' l hst=>?_
  by_cases h:n'<(n:Int)
  ·exact hdead n' c' h x' l hst
  ·have g1:=hst.days;have g2:=hst.due;simp only at g1 g2
   omega
 ·have:=hst.day0;simp only at this
  omega
theorem bKe{job:Int}(hj:isJ p job)(hnew:bit x.done job.toNat=false)(again0:Int->uQ->Option (List aG×Bool×uQ))(t51:List bE)(t52:Int){t53:Nat}(ht53:t53<9223372036854775807)
  (H0:∀S,J p days old x S0 S->(∀n c,aOb p days old x ⟨job,n,c⟩)->aAr p days old x S0 (again0 ((t53+1:Nat):Int) S))(S:uQ)(hS:J p days old x S0 S):
  aAr p days old x S0 (iE againR again0 p days old job t51 t52 t53 (jobAt p job).After ((jobAt p job).After.length:Int) S x (jobAt p job) BIG 0):=by
 have hal:=(hj.small hp).1;have hv:=hj.vj hp;refine iZ (S:=Unit) (λk i _=>iE againR again0 p days old job t51 t52 t53 (jobAt p job).After ((jobAt p job).After.length:Int) S x (jobAt p job) k i) (jobAt p job).After.length (aAr p days old x S0)
  (λi _=>i<=(jobAt p job).After.length/\∀a∈(jobAt p job).After.take i,bit x.done a.toNat=true) ?_ ?_ BIG 0 () (bI (by omega)) ⟨by omega,by simp⟩
 ·rintro k i _ hi ⟨_,hall⟩ ih;have hmem:=List.getElem_mem hi;have ha:=hv.after _ hmem;have hlt:decide ((i:Int)<((jobAt p job).After.length:Int))=true:=by simp;omega
  simp only[iE,hlt,cond_true,aY hi,Option.bind_some,bIi x ha.1,aZ (show i<9223372036854775807 by omega)];cases hb:bit x.done (jobAt p job).After[i].toNat with
  | true=>
   simp only[Bool.not_true,cond_false];refine ih () ⟨by omega,λa h=>?_⟩;rw[List.take_succ_eq_append_getElem hi] at h
   rcases List.mem_append.1 h with h|h
   ·exact hall a h
   ·simp at h;rw[h];exact hb
  | false=>
   simp only[Bool.not_false,cond_true,gE,aZ ht53];refine H0 S hS λn c x' l hst=>?_;have:=hst.after _ hmem;rw[hb] at this;cases this
 ·rintro k i _ hi ⟨hi2,hall⟩;have:i=(jobAt p job).After.length:=by omega
  subst this;have hlt:decide (((jobAt p job).After.length:Int)<((jobAt p job).After.length:Int))=false:=by simp
  simp only[iE,hlt,cond_false];rw[List.take_length] at hall;exact bNf hp hdays hold hx hnf S0 againR IH hj hnew hall again0 t51 t52 ht53 H0 S hS
theorem bNt(hS0:bCs p days old S0 (cnt x.done))(S:uQ)(hS:J p days old x S0 S):
  aAr p days old x S0 (cM againR p days old p.Jobs (p.Jobs.length:Int) x BIG 0 S):=by
 have hnj:=hp.nj;refine iZ (λk i S=>cM againR p days old p.Jobs (p.Jobs.length:Int) x k i S) p.Jobs.length (aAr p days old x S0)
  (λi S=>J p days old x S0 S/\∀j n c,j<(i:Int)->aOb p days old x ⟨j,n,c⟩) ?_ ?_ BIG 0 S (bI (by omega)) ⟨hS,λj n c h x' l hst=>by have:=hst.job.1;simp only at this;omega⟩
 ·rintro k i S hi ⟨hJ,hdead⟩ ih;have hj:isJ p (i:Int):=⟨by omega,by simpa using hi⟩;have hlt:decide ((i:Int)<(p.Jobs.length:Int))=true:=by simp;omega
  have next:∀S',J p days old x S0 S'->(∀n c,aOb p days old x ⟨(i:Int),n,c⟩)->aAr p days old x S0 (cM againR p days old p.Jobs (p.Jobs.length:Int) x k ((i+1:Nat):Int) S'):=by
   intro S' hS' hd;refine ih S' ⟨hS',λj n c h=>?_⟩
   by_cases e:j=i
   ·subst e;exact hd n c
   ·exact hdead j n c (by omega)
  have hii:((i:Int).toNat)=i:=by simp
  have ejob:p.Jobs[i]=jobAt p (i:Int):=by simp[jobAt,List.getD,hi]
  simp only[cM,hlt,cond_true,aY hi,Option.bind_some,bIi x hj.1];cases hb:bit x.done (i:Int).toNat with
  | true=>
   simp only[cond_true,gE,aZ (show i<9223372036854775807 by omega)];refine next S hJ λn c x' l hst=>?_;have:=hst.new;simp only at this;rw[hb] at this;cases this
  | false=>
   simp only[cond_false,ejob];exact bKe hp hdays hold hx hnf S0 againR IH hj hb (cM againR p days old p.Jobs (p.Jobs.length:Int) x k) p.Jobs (p.Jobs.length:Int) (t53:=i) (by omega) next S hJ
 ·rintro k i S hi ⟨hJ,hdead⟩;have hlt:decide ((i:Int)<(p.Jobs.length:Int))=false:=by simp;omega
  simp only[cM,hlt,cond_false,wM];have hno:∀l,¬aFc p days old x l:=by
   intro l hl;cases l with
   |nil=>exact hnf hl
   | cons s l=>
    obtain⟨_,x',hst,hc⟩:=hl;have hjs:=hst.job;have h1:=hjs.2;have h2:=hjs.1;exact hdead s.Job s.Day s.Court (by omega) x' l hst hc
  refine⟨[],false,S,rfl,(λh=>by cases h),λ_=>⟨rfl,hno,⟨λy hy hc=>?_,hJ.inv.rng⟩,λy hy=>?_⟩⟩
  ·rcases hJ.grow y hy with h|rfl|h
   ·exact hS0.dead y h hc
   ·exact hno
   ·exact hJ.inv.dead y hy h
  ·rcases hJ.grow y hy with h|rfl|h
   ·exact .inl h
   ·exact .inr (Nat.le_refl _)
   ·exact .inr (by omega)
end
theorem bAh{p:aI}(hp:VP p){days:Int}(hdays:days<=p.Days.length){old:Option (List aG)}(hold:∀l,old=some l->l.length<=9223372036854775807){m0:Int}:∀(kr:Nat) (pre:List aG) (x:aH) (S:uQ),
  Rep p old m0 pre x->7<=kr+cnt x.done->bCs p days old S (cnt x.done)->aAr p days old x S (cC kr (dR.mk p days old) S x)
 | 0,pre,x,S,hx,hk,_=>by
  have:=aYm hx;rw[<-hx.count] at this
  omega
 | kr +1,pre,x,S,hx,hk,hS=>by
  have hnj:=hp.nj;have hchk:chk (decide (0<=(p.Jobs.length:Int)))=some ():=by simp[chk]
  simp only[cC,hchk,Option.bind_some];rw[show((p.Jobs.length:Int).toNat)=p.Jobs.length by simp]
  by_cases hf:x.done=aFj p
  ·have:decide (x.done=w64 (w64 (1*2^(min p.Jobs.length 64))-1))=true:=by simpa[aFj] using hf
   simp only[this,cond_true];have hl:=aYm hx;rw[<-hx.count] at hl;exact⟨[],true,S,rfl,λ_=>⟨hf,by simpa using hl⟩,λh=>by cases h⟩
  ·have:decide (x.done=w64 (w64 (1*2^(min p.Jobs.length 64))-1))=false:=by simpa[aFj] using hf
   simp only[this,cond_false];have hr0:=hS.rng x;have hw:=bQb (bR x 0 S+1);have hget:∀y,bR y 0 (eK x (w64 (bR x 0 S+1)) S)=if y=x then w64 (bR x 0 S+1) else bR y 0 S:=λy=>aAm x y 0 _ S;rw[hget x,if_pos rfl];have rng':∀y,-9223372036854775808<=bR y 0 (eK x (w64 (bR x 0 S+1)) S)/\bR y 0 (eK x (w64 (bR x 0 S+1)) S)<=9223372036854775807:=by
    intro y;rw[hget]
    split
    ·exact hw
    ·exact hS.rng y
   by_cases hseen:1<w64 (bR x 0 S+1)
   ·have h1:1<=bR x 0 S:=by
     by_cases hm:bR x 0 S=9223372036854775807
     ·omega
     ·rw[cD (by omega) (by omega)] at hseen
      omega
    simp only[hseen,decide_true,cond_true];have hno:=hS.dead x h1 (Nat.le_refl _);refine⟨[],false,_,rfl,(λh=>by cases h),λ_=>⟨rfl,hno,⟨λy hy hc=>?_,rng'⟩,λy hy=>?_⟩⟩
    ·by_cases e:y=x
     ·subst e;exact hno
     ·rw[hget,if_neg e] at hy;exact hS.dead y hy hc
    ·by_cases e:y=x
     ·subst e;exact .inr (Nat.le_refl _)
     ·rw[hget,if_neg e] at hy;exact .inl hy
   ·simp only[hseen,decide_false,cond_false];refine bNt hp hdays hold hx hf S (cC kr) (λpre' x' S' hx' hc hS'=>?_) hS _ ⟨⟨λy hy hc=>?_,rng'⟩,λy hy=>?_⟩
    ·rw[<-hc] at hS';exact bAh hp hdays hold kr pre' x' S' hx' (by omega) hS'
    ·by_cases e:y=x
     ·subst e;omega
     ·rw[hget,if_neg e] at hy;exact hS.dead y hy (by omega)
    ·by_cases e:y=x
     ·exact .inr (.inl e)
     ·rw[hget,if_neg e] at hy;exact .inl hy
end Go.Am.Py
end
section
namespace Go.Am.Py
structure Full(p:aI)(days:Int)(old:Option (List aG))(m:Int)(l:List aG):Prop where
 ord:zS p l=true
 fits:bCa p l=true
 days:∀s∈l,s.Day<days
 moves:(l.map (mv old)).sum<=m
theorem bRs{p:aI}{l:List aG}(h:Ord p l)(hl:l.length=p.Jobs.length):zS p l=true:=by
 simp only[zS,Bool.and_eq_true,dL,decide_eq_true_eq];refine⟨λi hi=>?_,hl⟩;rw[aW hi];have hs:=h.seat i hi;have hdue:=h.due i hi;simp only[zZ,Bool.and_eq_true,Bool.not_eq_true',List.any_eq_false,List.all_eq_true,decide_eq_true_eq,List.any_eq_true,wi];refine⟨⟨⟨⟨⟨⟨hs.job.1,?_⟩,λo ho=>?_⟩,hs.day0,?_⟩,hs.court0,?_⟩,λo ho=>?_⟩,λa ha=>?_⟩
 ·have:=hs.job.2;omega
 ·rw[List.mem_take_iff_getElem] at ho;obtain⟨j,hj,rfl⟩:=ho;exact h.fresh i hi j (by omega)
 ·have:=hs.day;omega
 ·have:=hs.court;omega
 ·rw[List.mem_take_iff_getElem] at ho;obtain⟨j,hj,rfl⟩:=ho;exact h.sorted i hi j (by omega)
 ·obtain⟨j,hj,e⟩:=h.after i hi a ha;exact⟨l[j],by rw[List.mem_take_iff_getElem];exact⟨j,by omega,rfl⟩,e⟩
def bQf(p:aI)(pre:List aG):Prop:=∀o∈pre,cH (dB p pre (fV p) pre.length).2 o.Job<=(nZ p o.Day o.Court).High
theorem bAb{p:aI}{l:List aG}:bCa p l=true↔bQf p l:=by
 unfold bCa bQf;rw[dL]
 constructor
 ·intro h o ho;obtain⟨i,hi,rfl⟩:=List.getElem_of_mem ho;have:=h i hi;rw[aW hi] at this;exact of_decide_eq_true this
 ·intro h i hi;rw[aW hi];exact decide_eq_true (h _ (List.getElem_mem hi))
theorem aTg{p:aI}(hp:VP p){old:Option (List aG)}{m0:Int}{pre:List aG}{x:aH}(h:Rep p old m0 pre x):x.done=aFj p↔pre.length=p.Jobs.length:=by
 obtain⟨d,hd,hdl⟩:=h.done;have hnj:=hp.nj;have hd64:d<64:=Nat.lt_of_lt_of_le hdl (bOz hnj);have h1:=bMy ⟨p.Jobs.length,by omega⟩ ⟨d,hd64⟩ hdl;have h2:=bVq ⟨p.Jobs.length,by omega⟩;simp only at h1 h2;unfold aFj;rw[h2,hd,<-h.count,hd,<-h1]
 omega
theorem bPd{p:aI}(pre:List aG)(s:aG)(hs:isJ p s.Job):(dB p (pre++[s]) (fV p) (pre++[s]).length).2=(dB p pre (fV p) pre.length).2.set s.Job.toNat (eG p pre (dB p pre (fV p) pre.length).2 s+(jobAt p s.Job).Length.High):=by
 have e5:(pre++[s]).length=pre.length+1:=by simp
 rw[e5];have e6:(pre++[s]).getD pre.length default=s:=by simp[List.getD]
 have e7:(pre++[s]).take pre.length=pre:=by simp
 simp only[dB,aDp pre.length (Nat.le_refl _),e6,e7];have e8:cH (fV p) s.Job=(jobAt p s.Job).Length.High:=by rw[fV,sM _ hs]
 rw[e8]
theorem bDh{p:aI}(hp:VP p){days:Int}(hdays:days<=p.Days.length){old:Option (List aG)}{m0:Int}:∀(l pre:List aG) (x:aH),Rep p old m0 pre x->bQf p pre->(∀o∈pre,o.Day<days)->
  aFc p days old x l->Full p days old m0 (pre++l)
 | [],pre,x,hx,hf,hd,hc=>by
  rw[List.append_nil];refine⟨bRs hx.ord ((aTg hp hx).1 hc),bAb.2 hf,hd,?_⟩;have:=hx.moves;have:=hx.pos
  omega
 | s ::l,pre,x,hx,hf,hd,⟨_,x',hst,hc⟩=>by
  obtain⟨hx',hs,hend⟩:=hx.step hp hdays hst;have hlen:=qQ (p:=p) (order:=pre) (takes:=fV p) pre.length;have:=bDh hp hdays l (pre++[s]) x' hx' (λo ho=>?_) (λo ho=>?_) hc
  ·simpa using this
  ·rcases List.mem_append.1 ho with ho|ho
   ·have hne:o.Job≠s.Job:=λe=>by
     have:=(hx.bits _ hs.job).2 ⟨o,ho,e⟩;rw[hst.new] at this;cases this
    have hoj:isJ p o.Job:=by
     obtain⟨i,hi,rfl⟩:=List.getElem_of_mem ho;exact(hx.ord.seat i hi).job
    rw[bPd pre s hs.job,aBe hs.job.1 hoj.1 (Ne.symm hne)];exact hf o ho
   ·simp at ho;subst ho;exact hend
  ·rcases List.mem_append.1 ho with ho|ho
   ·exact hd o ho
   ·simp at ho;subst ho;exact hst.days
theorem aXh(old:Option (List aG))(l:List aG):0<=(l.map (mv old)).sum:=by
 induction l with
 |nil=>simp
 |cons a l ih=>have:=(aQs old a).1;simp;omega
theorem bDg{p:aI}(hp:VP p){days:Int}(hdays:days<=p.Days.length){old:Option (List aG)}{m0:Int}:∀(l pre:List aG) (x:aH),Rep p old m0 pre x->Full p days old m0 (pre++l)->aFc p days old x l
 | [],pre,x,hx,hf=>by
  rw[List.append_nil] at hf;exact(aTg hp hx).2 (Ord_of hf.ord).2
 | s ::l,pre,x,hx,hf=>by
  obtain⟨ho,hol⟩:=Ord_of hf.ord;have hlenA:(pre++s::l).length=pre.length+1+l.length:=by simp;omega
  have hi:pre.length<(pre++s::l).length:=by omega
  have es:(pre++s::l)[pre.length]=s:=by simp
  have ep:∀j (h:j<pre.length),(pre++s::l)[j]'(by omega)=pre[j]:=λj h=>List.getElem_append_left h;have hs:Seat p s:=es▸ho.seat _ hi;have hnd:=hp.nd;have hnf:x.done≠aFj p:=λe=>by
   have:=(aTg hp hx).1 e
   omega
  have hnew:bit x.done s.Job.toNat=false:=by
   cases hb:bit x.done s.Job.toNat with
   |false=>rfl
   | true=>
    obtain⟨o,hom,e⟩:=(hx.bits _ hs.job).1 hb;obtain⟨j,hj,rfl⟩:=List.getElem_of_mem hom;have:=ho.fresh _ hi j hj;rw[ep j hj,es] at this;exact absurd e this
  have hafter:∀a∈(jobAt p s.Job).After,bit x.done a.toNat=true:=λa ha=>by
   have hja:isJ p a:=by
    have:=(hs.job.vj hp).after a ha;have:=hs.job.2;exact⟨by omega,by omega⟩
   obtain⟨j,hj,e⟩:=ho.after _ hi a (by rw[es];exact ha);rw[ep j hj] at e;exact(hx.bits a hja).2 ⟨pre[j],List.getElem_mem _,e⟩
  have hday0:x.day.number<=s.Day:=by
   rcases hx.last with⟨_,e⟩|⟨o,hom,e⟩
   ·rw[e];exact hs.day0
   ·obtain⟨j,hj,rfl⟩:=List.getElem_of_mem hom;have:=ho.sorted _ hi j hj;rw[ep j hj,es] at this
    omega
  obtain⟨now,e1,e2,e3,e4⟩:=aTu hp hx hs hday0;have hend:eG p pre (dB p pre (fV p) pre.length).2 s+(jobAt p s.Job).Length.High<=(nZ p s.Day s.Court).High:=by
   have h1:=bAb.1 hf.fits s (by simp);have h2:=(aEl ho (t:=fV p) hi (pre++s::l).length hi (Nat.le_refl _)).2;rw[es] at h2;have e7:(pre++s::l).take pre.length=pre:=by simp
   rw[e7,aDp pre.length (Nat.le_refl _),fV,sM _ hs.job] at h2;rw[<-fV] at h2;rw[h2] at h1;exact h1
  have hmv:=aQs old s;have hsum:=hf.moves;have hl0:=aXh old l;have hp0:=aXh old pre;have hm:=hx.moves;have hm0:=hx.m0;simp only[List.map_append,List.sum_append,List.map_cons,List.sum_cons] at hsum;have hxp:=hx.pos;have hw:w64 (x.moves-mv old s)=x.moves-mv old s:=cD (by omega) (by omega);have hst:SStep p days old x s ⟨⟨now.number,now.free.set s.Court (eG p pre (dB p pre (fV p) pre.length).2 s+(jobAt p s.Job).Length.High),now.ends.set s.Job (eG p pre (dB p pre (fV p) pre.length).2 s+(jobAt p s.Job).Length.High)⟩,bOr x.done (w64 (1*2^(min s.Job.toNat 64))),w64 (x.moves-mv old s)⟩:=by
   refine⟨hs.job,hnew,hafter,hday0,hf.days s (by simp),by have:=ho.due _ hi;rw[es] at this;exact this,hs.court0,hs.court,⟨now,_,_,_,e1,e4,hend,rfl⟩,?_⟩;simp only;rw[hw]
   omega
  obtain⟨hx',_,_⟩:=hx.step hp hdays hst;exact⟨hnf,_,hst,bDg hp hdays l (pre++[s]) _ hx' (by simpa using hf)⟩
theorem bLg{p:aI}(hp:VP p){days:Int}(h0:0<=days)(hdays:days<=p.Days.length){old:Option (List aG)}(hold:∀l,old=some l->l.length<=9223372036854775807){moves:Int}(hm0:0<=moves)(hm1:moves<=1000):
  ∃l b,aBt p days old moves=some (l,b)/\l.length<=6/\(b=true->Full p days old moves l)/\(b=false->l=[]/\∀l,¬Full p days old moves l):=by
 have hnj:=hp.nj;unfold aBt
 by_cases hz:days=0
 ·subst hz;simp only[decide_true,cond_true];refine⟨[],_,rfl,by simp,λh=>?_,λh=>⟨rfl,λl hl=>?_⟩⟩
  ·have hj:p.Jobs.length=0:=by simpa using h
   exact⟨by simp[zS,hj],by simp[bCa],by simp,by simpa using hm0⟩
  ·have hj:p.Jobs.length≠0:=by
    intro e
    simp[e] at h
   obtain⟨ho,hlen⟩:=Ord_of hl.ord;have hi:0<l.length:=by omega
   have:=hl.days _ (List.getElem_mem hi);have:=(ho.seat 0 hi).day0
   omega
 ·have hd:decide (days=0)=false:=by simpa using hz
  obtain⟨d0,hd0,od0⟩:=aBs hp (Int.le_refl 0) (by simpa using hp.nd0);simp only[hd,cond_false,hd0,Option.bind_some];have hrep:Rep p old moves [] ⟨d0,0,moves⟩:=by
   refine⟨⟨by simp,by simp,by simp,by simp,by simp⟩,?_,by simp,.inl ⟨rfl,od0.number⟩,od0.dayP (by simp) _,⟨0,rfl,Nat.pow_pos (by omega)⟩,λj hj=>?_,?_,by simp,hm0,hm1⟩
   ·simp only;rw[od0.number];exact⟨Int.le_refl 0,by simpa using hp.nd0⟩
   ·have h6:=hj.six hp;have:=aZl ⟨j.toNat,by omega⟩;simp only at this
    simp[this]
   ·simp only[cnt,List.length_nil];have:((List.range 6).filter λj=>bit 0 j)=[]:=by
     rw[List.filter_eq_nil_iff];intro j hj;have:=aZl ⟨j,by simpa using hj⟩;simp only at this
     simp[this]
    rw[this];rfl
  have hc0:cnt (aH.mk d0 0 moves).done=0:=hrep.count;obtain⟨l,b,S',hr,ht,hf⟩:=bAh hp hdays hold BIG [] ⟨d0,0,moves⟩ [] hrep (by unfold BIG;omega) ⟨λy hy=>by simp[bR] at hy,λy=>by simp[bR]⟩;rw[show aAa=cC BIG from rfl,hr];refine⟨l,b,rfl,?_,λhb=>?_,λhb=>⟨(hf hb).1,λl' hl'=>?_⟩⟩
  ·cases b with
   |true=>have:=(ht rfl).2;omega
   |false=>rw[(hf rfl).1];simp
  ·have:=bDh hp hdays l [] _ hrep (λo ho=>by simp at ho) (by simp) (ht hb).1
   simpa using this
  ·exact(hf hb).2.1 l' (bDg hp hdays l' [] _ hrep (by simpa using hl'))
end Go.Am.Py
end
section
namespace Go.Am.Py
theorem Full.mono{p:aI}{days days':Int}{old:Option (List aG)}{m m':Int}{l:List aG}(h:Full p days old m l)(hd:days<=days')(hm:m<=m'):Full p days' old m' l:=
 ⟨h.ord,h.fits,λs hs=>Int.lt_of_lt_of_le (h.days s hs) hd,Int.le_trans h.moves hm⟩
def bCp(p:aI)(n:Int):Prop:=∀m:Int,0<=m->m<n->∀l,¬Full p m none 0 l
def bCy(p:aI)(r:Option (Int×List aG×Bool)):Prop:=
 ∃n l b,r=some (n,l,b)/\l.length<=6/\(b=true->0<=n/\n<=(p.Days.length:Int)/\Full p n none 0 l/\bCp p n)/\(b=false->n=0/\l=[]/\bCp p ((p.Days.length:Int)+1))
theorem best_spec{p:aI}(hp:VP p):bCy p (aEi p):=by
 have hnd:=hp.nd;unfold aEi;rw[cD (by omega) (by omega)];have e:((p.Days.length:Int)+1)=((p.Days.length+1:Nat):Int):=by omega
 rw[e];refine iZ (S:=Unit) (λk i _=>rH ((p.Days.length+1:Nat):Int) p k i) (p.Days.length+1) (bCy p) (λi _=>i<=p.Days.length+1/\bCp p i) ?_ ?_ BIG 0 () (bI (by omega)) ⟨by omega,λm h0 hm=>by simp at hm;omega⟩
 ·rintro k i _ hi ⟨_,hno⟩ ih;have hlt:decide ((i:Int)<((p.Days.length+1:Nat):Int))=true:=decide_eq_true (by omega);obtain⟨l,b,hr,hl,ht,hf⟩:=bLg hp (days:=i) (by omega) (by omega) (old:=none) (λl h=>by cases h) (Int.le_refl 0) (by omega);simp only[rH,hlt,cond_true,hr,Option.bind_some,aZ (show i<9223372036854775807 by omega)];cases b with
  |true=>exact⟨i,l,true,rfl,hl,(λ_=>⟨by omega,by omega,ht rfl,hno⟩),λh=>by cases h⟩
  | false=>
   refine ih () ⟨by omega,λm h0 hm=>?_⟩
   by_cases hmi:m=i
   ·subst hmi;exact(hf rfl).2
   ·exact hno m h0 (by omega)
 ·rintro k i _ hi ⟨hi2,hno⟩;have hlt:decide ((i:Int)<((p.Days.length+1:Nat):Int))=false:=decide_eq_false (by omega);simp only[rH,hlt,cond_false,aHi];have hi3:(i:Int)=(p.Days.length:Int)+1:=by omega
  exact⟨0,[],false,rfl,by simp,(λh=>by cases h),λ_=>⟨rfl,rfl,hi3▸hno⟩⟩
end Go.Am.Py
end
section
namespace Go.Am.Py
theorem bXo{l:List Nat}{n:Nat}(hs:l.Pairwise (·<·))(hn:∀x∈l,x<n):(List.range (l.map Int.ofNat).length).all (asc (l.map Int.ofNat) n)=true:=by
 rw[dL];intro i hi;rw[List.length_map] at hi;have e:∀j,j<l.length->(l.map Int.ofNat).getD j 0=((l.getD j 0:Nat):Int):=λj hj=>by simp[List.getD,hj]
 unfold asc wi;have h1:=hn _ (List.getElem_mem hi);simp only[Bool.and_eq_true,Bool.or_eq_true,decide_eq_true_eq];rw[e i hi,aW hi];refine⟨by omega,?_⟩
 by_cases h0:i=0
 ·exact .inl h0
 ·refine .inr ?_;rw[e (i-1) (by omega),aW (by omega)];have:=List.pairwise_iff_getElem.1 hs (i-1) i (by omega) hi (by omega)
  omega
theorem bRw{stages:List bU}(hst:stages.all mI=true){o:List aN}{b:aN}(h0:0<=b.Round)(h1:b.Round.toNat<stages.length)(n m:Nat):lB (aGw stages o b n) n m=true:=by
 have hs:mI stages[b.Round.toNat]=true:=List.all_eq_true.1 hst _ (List.getElem_mem h1);unfold aGw lB;rw[aW h1];simp only[mI,Go.Am.wi,Bool.and_eq_true,decide_eq_true_eq] at hs;have ha:(List.range ((kM o b n).map Int.ofNat).length).all (asc ((kM o b n).map Int.ofNat) n)=true:=by
  refine bXo (List.pairwise_lt_range.filter _) λx hx=>?_;unfold kM at hx;exact List.mem_range.1 (List.mem_filter.1 hx).1
 simp only[ha,wi,Bool.and_eq_true,decide_eq_true_eq];refine⟨⟨⟨⟨⟨⟨by omega,by omega⟩,by omega⟩,by omega,by omega⟩,by omega,by omega⟩,trivial⟩,?_⟩
 simp
theorem jobs_valid{Days:List (List aX)}{Rest:Int}(hv:valid ⟨Days,Rest,[]⟩=true){stages:List bU}(hst:stages.all mI=true){o:List aN}(ho:∀b∈o,0<=b.Round/\b.Round.toNat<stages.length)(h6:o.length<=6):
  valid ⟨Days,Rest,iQ stages o⟩=true:=by
 simp only[valid,Bool.and_eq_true,dL,decide_eq_true_eq] at hv|-;obtain⟨⟨⟨⟨h1,h2⟩,_⟩,h4⟩,_⟩:=hv;refine⟨⟨⟨⟨h1,h2⟩,by rw[pG];exact h6⟩,h4⟩,λi hi=>?_⟩;rw[pG] at hi;have e:(iQ stages o).getD i default=aGw stages o o[i] i:=by rw[aW (by rw[pG];exact hi),bAm stages hi]
 rw[e];obtain⟨h5,h6⟩:=ho _ (List.getElem_mem hi);exact bRw hst h5 h6 i _
section
variable{p:aI}{order:List aG}(ho:Ord p order)(hlen:order.length=p.Jobs.length)
include ho hlen
theorem bIx{k:Nat}(hk:k<p.Jobs.length):∃i,∃(hi:i<order.length),order[i].Job=(k:Int):=by
 refine Classical.byContradiction λhno=>?_;have hnd:(order.map λs=>s.Job.toNat).Nodup:=by
  refine List.pairwise_iff_getElem.2 λi j hi hj hij=>?_;rw[List.length_map] at hi hj;rw[List.getElem_map,List.getElem_map];have h1:=ho.fresh j hj i hij;have h2:=(ho.seat i hi).job.1;have h3:=(ho.seat j hj).job.1
  omega
 have:=mV (m:=List.range k++List.range' (k+1) (p.Jobs.length-k-1)) hnd λx hx=>by
  obtain⟨s,hs,rfl⟩:=List.mem_map.1 hx;obtain⟨i,hi,rfl⟩:=List.getElem_of_mem hs;have h2:=(ho.seat i hi).job;have h3:order[i].Job≠(k:Int):=λe=>hno ⟨i,hi,e⟩;rw[List.mem_append,List.mem_range,List.mem_range'_1];obtain⟨h4,h5⟩:=h2
  omega
 simp only[List.length_map,List.length_append,List.length_range,List.length_range'] at this
 omega
theorem ord_last(hn:0<order.length)(hnext:∀j:Nat,j+1<p.Jobs.length->∃k,k<p.Jobs.length/\(j:Int)∈(jobAt p k).After):(order[order.length-1]'(by omega)).Job=(p.Jobs.length:Int)-1:=by
 refine Classical.byContradiction λhne=>?_;have hs:=(ho.seat (order.length-1) (by omega)).job;obtain⟨h0,h1⟩:=hs;obtain⟨k,hk,ha⟩:=hnext (order[order.length-1]'(by omega)).Job.toNat (by omega);obtain⟨i,hi,e⟩:=bIx ho hlen hk;obtain⟨j,hj,e2⟩:=ho.after i hi _ (by rw[e];exact ha);have:order[j].Job≠(order[order.length-1]'(by omega)).Job:=ho.fresh (order.length-1) (by omega) j (by omega)
 omega
end
theorem bOt{p:aI}{order:List aG}(ho:Ord p order){i j:Nat}(hi:i<order.length)(hj:j<i)(ha:order[j].Job∈(jobAt p order[i].Job).After)(t:List Int):
  order[j].Day<=order[i].Day/\(order[j].Day=order[i].Day->cH (dB p order t order.length).2 order[j].Job+p.Rest<=cH (dB p order t order.length).1 order[i].Job):=by
 refine⟨ho.sorted i hi j hj,λhd=>?_⟩;have hw:=(bPf ho (t:=t) hi).1;refine(hw.2.2 order[j] (by rw[List.mem_take_iff_getElem];exact⟨j,by omega,rfl⟩) hd).2 ?_;simp only[sS,Bool.or_eq_true,decide_eq_true_eq];exact .inl (.inl (.inl ha))
end Go.Am.Py
end
section
namespace Go.Am.Py
def tB(p:aI)(order:List aG):List aX:=spansOf p (aAc p order).1 (zB p order).1
def tE(p:aI)(order:List aG):List aX:=spansOf p (aAc p order).2 (zB p order).2
structure bCl(p:aI)(order:List aG)(n:Nat)(D:List Int):Prop where
 len:D.length=p.Jobs.length
 day:∀i (_:i<order.length),i<n->D.getD order[i].Job.toNat 0=order[i].Day
section
variable{p:aI}(hp:VP p){order:List aG}(ho:Ord p order)(hlen:order.length=p.Jobs.length){h:eP}(hR:h.Rest=p.Rest)
include hp ho hlen hR
omit hR in
theorem aZy{t:List Int}(ht:aUj p t)(j:Nat):0<=cH (dB p order t order.length).2 (j:Int)/\cH (dB p order t order.length).2 (j:Int)<=100000:=by
 have:=aFn hp ho.seat ht order.length (Nat.le_refl _) j;have h6:=hp.nj;simp only[cH,Int.toNat_natCast]
 omega
theorem bTc{D:List Int}(hD:bCl p order order.length D)(again:Int->Option Bool){k:Nat}(hk:k<p.Jobs.length):dP again p.Jobs (tB p order) (tE p order) k h D BIG 0=again ((k+1:Nat):Int):=by
 have h6:=hp.nj;have hvj:=hp.vj hk;have hal:=hvj.alen;have:=eH (λq n=>dP again p.Jobs (tB p order) (tE p order) k h D q n) p.Jobs[k].After.length (λ_=>true) (some false) (again ((k+1:Nat):Int)) ?_ ?_ BIG (bI (by omega))
 ·rw[this];have e:(List.range p.Jobs[k].After.length).all (λ_=>true)=true:=by simp
  rw[e,cond_true]
 ·intro q n hn;have hkj:isJ p (k:Int):=⟨by omega,by simpa using hk⟩;have hjk:jobAt p (k:Int)=p.Jobs[k]:=by unfold jobAt;rw[Int.toNat_natCast,aW hk]
  have hx:=hvj.after _ (List.getElem_mem hn);have hmem:=List.getElem_mem hn
  generalize ha:p.Jobs[k].After[n]=a at hx hmem
  have haj:isJ p a:=⟨hx.1,by omega⟩;obtain⟨i,hi,ei⟩:=bIx ho hlen hk;obtain⟨j,hj,ej⟩:=ho.after i hi a (by rw[ei,hjk];exact hmem);have hw:=λt=>bOt ho hi hj (by rw[ei,ej,hjk];exact hmem) t;have d1:=hD.day i hi hi;have d2:=hD.day j (by omega) (by omega);rw[ei] at d1;rw[ej] at d2;rw[ei,ej] at hw;have x1:idx D a=some order[j].Day:=by
   rw[pW hx.1 (by rw[hD.len];exact haj.2),<-d2,aW (by rw[hD.len];exact haj.2)]
  have x2:idx D (k:Int)=some order[i].Day:=by
   rw[aY (by rw[hD.len];exact hk),<-d1,Int.toNat_natCast,aW (by rw[hD.len];exact hk)]
  have hday:=(hw []).1;have hl:=(hw (aPi p)).2;have hh:=(hw (fV p)).2;have b1:=aZy hp ho hlen (bBh hp) a.toNat;have b2:=aZy hp ho hlen (aNc hp) a.toNat;rw[show((a.toNat:Nat):Int)=a by omega] at b1 b2;have hr:=hp.rest;have hlt:decide ((n:Int)<(p.Jobs[k].After.length:Int))=true:=decide_eq_true (by omega);have c1:decide (order[i].Day<order[j].Day)=false:=decide_eq_false (by omega);have xb:idx (tB p order) (k:Int)=some ⟨cH (aAc p order).1 k,cH (zB p order).1 k⟩:=aSi _ _ hkj;have xe:idx (tE p order) a=some ⟨cH (aAc p order).2 a,cH (zB p order).2 a⟩:=aSi _ _ haj;simp only[dP,aY hk,Option.bind_some,hlt,cond_true,aY hn,ha,x1,x2,c1,cond_false,xb,xe,hR]
  by_cases he:order[j].Day=order[i].Day
  ·have y1:=hl he;have y2:=hh he;have z1:decide (cH (aAc p order).1 k<w64 (cH (aAc p order).2 a+p.Rest))=false:=by
    rw[cD (by unfold aAc;omega) (by unfold aAc;omega)];exact decide_eq_false (by unfold aAc;omega)
   have z2:decide (cH (zB p order).1 k<w64 (cH (zB p order).2 a+p.Rest))=false:=by
    rw[cD (by unfold zB;omega) (by unfold zB;omega)];exact decide_eq_false (by unfold zB;omega)
   rw[decide_eq_true he,cond_true,z1,cond_false,z2,Option.bind_some,Option.bind_some,Option.bind_some,cond_false,aZ (show n<9223372036854775807 by omega)]
  ·rw[decide_eq_false he,cond_false,Option.bind_some,Option.bind_some,cond_false,aZ (show n<9223372036854775807 by omega)]
 ·intro q;have hlt:decide ((p.Jobs[k].After.length:Int)<(p.Jobs[k].After.length:Int))=false:=decide_eq_false (by omega);simp only[dP,aY hk,Option.bind_some,hlt,cond_false,mQ,mP];rw[aZ (by omega)]
theorem bTb{D:List Int}(hD:bCl p order order.length D):dO p.Jobs (tB p order) (tE p order) h D BIG 0=fX:=by
 have h6:=hp.nj;have:=eH (λq n=>dO p.Jobs (tB p order) (tE p order) h D q n) p.Jobs.length (λ_=>true) (some false) fX ?_ ?_ BIG (bI (by omega))
 ·rw[this];have e:(List.range p.Jobs.length).all (λ_=>true)=true:=by simp
  rw[e,cond_true]
 ·intro q n hn;have hlt:decide ((n:Int)<(p.Jobs.length:Int))=true:=decide_eq_true (by omega);show(bif decide ((n:Int)<(p.Jobs.length:Int)) then _ else _)=_;rw[hlt,cond_true,bTc hp ho hlen hR hD _ hn,cond_true]
 ·intro q;have hlt:decide ((p.Jobs.length:Int)<(p.Jobs.length:Int))=false:=decide_eq_false (by omega);show(bif decide ((p.Jobs.length:Int)<(p.Jobs.length:Int)) then _ else _)=_;rw[hlt,cond_false]
theorem sched_L0{D:List Int}(hD:D.length=p.Jobs.length):cX p.Jobs order (tB p order) (tE p order) h BIG 0 D=fX:=by
 have h6:=hp.nj;refine dD (S:=List Int) (λq n D=>cX p.Jobs order (tB p order) (tE p order) h q n D) order.length (λ_ _=>fX) (λn D=>bCl p order n D) ?_ ?_ BIG D (bI (by omega)) ⟨hD,λi _ h=>by omega⟩
 ·intro q n D hn hD ih;have hlt:decide ((n:Int)<(order.length:Int))=true:=decide_eq_true (by omega);have hj:=(ho.seat n hn).job;have hx:idx D order[n].Job=some D[order[n].Job.toNat]!:=by
   rw[pW hj.1 (by rw[hD.len];exact hj.2)];rw[getElem!_pos D order[n].Job.toNat (by rw[hD.len];exact hj.2)]
  show(bif decide ((n:Int)<(order.length:Int)) then _ else _)=_;rw[hlt,cond_true,aY hn,Option.bind_some,Option.bind_some,hx,Option.bind_some,aZ (show n<9223372036854775807 by omega)];refine ih _ ⟨by rw[List.length_set];exact hD.len,λi hi hin=>?_⟩;rw[bBr]
  by_cases hin2:i=n
  ·subst hin2;rw[if_pos ⟨rfl,by rw[hD.len];exact hj.2⟩]
  ·have:=ho.fresh n hn i (by omega);have h0:=(ho.seat i hi).job.1;have h1:=hj.1;rw[if_neg (by omega)];exact hD.day i hi (by omega)
 ·intro q D hD;have hlt:decide ((order.length:Int)<(order.length:Int))=false:=decide_eq_false (by omega);show(bif decide ((order.length:Int)<(order.length:Int)) then _ else _)=_;rw[hlt,cond_false];exact bTb hp ho hlen hR hD
end
end Go.Am.Py
end
