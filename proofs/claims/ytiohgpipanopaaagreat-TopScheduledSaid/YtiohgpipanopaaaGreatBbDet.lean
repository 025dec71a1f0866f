/- Several texts, one behind the other. -/
import Derived.Test.YtiohgpipanopaaaGreatBkPlain1
import Derived.KernelRfl
import Derived.Test.YtiohgpipanopaaaGreatTlSh
section
namespace Go.Am
theorem aVi{α:Type}(p:α->Bool):∀l:List α,(l.filter p).length+(l.filter λx=>!p x).length=l.length
 |[]=>rfl
 | x::l=>by
  have:=aVi p l;simp only[List.filter_cons];cases p x<;>simp<;>omega
def nP(must:List (List Int))(x:Nat×Nat):Bool:=decide (mat must x.1 x.2= -2)
def aQr(t:aF)(must:List (List Int)):Nat:=((sZ t).filter (nP must)).length
def aEu(t:aF)(n:Nat):List (Nat×Nat):=(List.range n).flatMap λr:Nat=>(List.range (bS t r)).map λp:Nat=>(r,p)
theorem bAi(t:aF)(n:Nat):aEu t (n+1)=aEu t n++(List.range (bS t n)).map λp:Nat=>(n,p):=aAt _ _
theorem aTh(t:aF):∀n,n<=t.Rounds.toNat->(aEu t n).length+2^(t.Rounds.toNat-n)=2^t.Rounds.toNat
 |0,_=>by simp[aEu]
 | n+1,h=>by
  have ih:=aTh t n (by omega);rw[bAi,List.length_append,List.length_map,List.length_range];unfold bS;have e:t.Rounds.toNat-1-((n:Nat):Int).toNat=t.Rounds.toNat-(n+1):=by simp;omega
  have e2:2^(t.Rounds.toNat-n)=2*2^(t.Rounds.toNat-(n+1)):=by
   have:t.Rounds.toNat-n=(t.Rounds.toNat-(n+1))+1:=by omega
   rw[this,Nat.pow_succ];omega
  rw[e]
  omega
theorem bEc{t:aF}(ht:TreeOK t):(sZ t).length+1=t.Slots.length:=by
 have:=aTh t t.Rounds.toNat (Nat.le_refl _);rw[ht.len]
 simpa[aEu,sZ] using this
theorem Good.inn{t:aF}{l:List aB}{d:List Int}(hg:Good t l d){m:aA}{v:Int}(h:fB d (Res l) m v):∃r p:Nat,m=⟨r,p⟩/\r<t.Rounds.toNat/\p<bS t r:=by
 have h1:=hg.ht.r1;have hlen:=hg.dok.len
 rcases h with⟨j,hj,hb,rfl,_⟩|⟨x,hx,a,ha,he,_,q,hq,rfl⟩
 ·exact⟨0,sib j/2^(0+1),rfl,by omega,yN hg.ht (aKt hg.ht (by omega)) (by omega)⟩
 ·have:=(hg.rok hx).r1;have:=(hg.rok hx).r0;exact⟨q,a/2^(q+1),rfl,by omega,yN hg.ht (by omega) (by omega)⟩
theorem bXd{t:aF}{l:List aB}{d:List Int}(hg:Good t l d){must:List (List Int)}(hM:MustIs t must (fB d (Res l))){won:List (aA×Int)}(hW:WonIs won (fB d (Res l))):won.length+aQr t must+1=t.Slots.length:=by
 have hs:=aVi (nP must) (sZ t);have hl:=bEc hg.ht;have hmem:∀m:aA,m∈won.map (·.1)↔m∈((sZ t).filter λx=>!nP must x).map λx=>(⟨x.1,x.2⟩:aA):=by
  intro m;rw[List.mem_map,List.mem_map]
  constructor
  ·rintro⟨⟨m',v⟩,hv,rfl⟩;have hP:=(hW.mem _ _).1 hv;obtain⟨r,p,rfl,hr,hp⟩:=hg.inn hP;refine⟨(r,p),?_,rfl⟩;rw[List.mem_filter,aGz];have:=(hM.mem r p v hr hp).2 hP;refine⟨⟨hr,hp⟩,?_⟩;unfold nP;rw[this.1];simp[this.2]
  ·rintro⟨x,hx,rfl⟩;rw[List.mem_filter,aGz] at hx;obtain⟨⟨hr,hp⟩,ho⟩:=hx;have h2:mat must x.1 x.2≠-2:=by simpa[nP] using ho
   exact⟨(⟨x.1,x.2⟩,mat must x.1 x.2),(hW.mem _ _).2 ((hM.mem x.1 x.2 _ hr hp).1 ⟨rfl,h2⟩),rfl⟩
 have hnd:(((sZ t).filter λx=>!nP must x).map λx=>(⟨x.1,x.2⟩:aA)).Nodup:=by
  refine List.Pairwise.map _ (λx y hxy e=>hxy ?_) ((bKs t).filter _);simp only[aA.mk.injEq] at e;exact Prod.ext (by omega) (by omega)
 have:=bEg hW.nd hnd hmem;rw[List.length_map,List.length_map] at this;unfold aQr
 omega
section
variable{t:aF}{l:List aB}{d:List Int}(hg:Good t l d){must:List (List Int)}(hM:MustIs t must (fB d (Res l)))
include hg hM
theorem bSb:gK t ⟨d,must⟩ BIG 0 0=some (((aQr t must:Nat):Int),0):=by
 have ht:=hg.ht;have h1:=ht.r1;have h5:=ht.r5;have hil:=bEc ht;have h32:=ht.len32;have hlen:∀n,n<=t.Rounds.toNat->((aEu t n).filter (nP must)).length<=40:=λn hn=>by
  have hA:=List.length_filter_le (nP must) (aEu t n);have hB:=aTh t n hn;rw[<-ht.len] at hB
  generalize 2^(t.Rounds.toNat-n)=z at hB
  omega
 have:=dD (S:=Int) (λk r n=>gK t ⟨d,must⟩ k n r) t.Rounds.toNat (λ_ _=>some (((aQr t must:Nat):Int),0)) (λr n=>n=(((aEu t r).filter (nP must)).length:Nat)) ?_ ?_ BIG 0 (bI (by omega)) (by simp[aEu])
 ·exact this
 ·rintro k r n hr rfl ih;have hlt:decide ((r:Int)<t.Rounds)=true:=decide_eq_true (by omega);have hP:=aIa ht (r:=(r:Int)) (by omega) (by omega);have hpl:=qP ht (r:=(r:Int));have hl0:=hlen r (by omega);have hin:=dD (S:=Int) (λq p n=>lW (gK t ⟨d,must⟩ k) r t ⟨d,must⟩ q n p) (bS t r)
   (λ_ _=>xJ (gK t ⟨d,must⟩ k) ((((aEu t (r+1)).filter (nP must)).length:Nat):Int) r t ⟨d,must⟩)
   (λp n=>n=((((aEu t r).filter (nP must)).length+(((List.range p).map λp:Nat=>(r,p)).filter (nP must)).length:Nat):Int)) ?_ ?_ BIG (((aEu t r).filter (nP must)).length:Nat) (bI (by omega)) (by simp)
  ·simp only[gK,hlt,cond_true];refine hin.trans ?_;unfold xJ aEa;rw[aZ (show r<9223372036854775807 by omega)];exact ih _ rfl
  ·rintro q p n hp rfl ih2;have hle:(((List.range p).map λp:Nat=>(r,p)).filter (nP must)).length<=p:=by
    have:=List.length_filter_le (nP must) ((List.range p).map λp:Nat=>(r,p));simpa using this
   have hi:=aYd hM hr hp;simp only[lW,hP,Option.bind_some,Int.ofNat_lt,hp,decide_true,cond_true,aZ (show p<9223372036854775807 by omega)];rw[<-Option.bind_assoc,hi,Option.bind_some];have hst:(((List.range (p+1)).map λp:Nat=>(r,p)).filter (nP must)).length=(((List.range p).map λp:Nat=>(r,p)).filter (nP must)).length+(if nP must (r,p)=true then 1 else 0):=by
    rw[List.range_succ,List.map_append,List.filter_append,List.length_append]
    congr 1
    simp only[List.map_cons,List.map_nil,List.filter_cons,List.filter_nil]
    split<;>rfl
   by_cases ho:mat must r p= -2
   ·have ho':nP must (r,p)=true:=by unfold nP;simp[ho]
    rw[ho',if_pos rfl] at hst;simp only[ho,decide_true,cond_true];rw[aZ (by omega)];exact ih2 _ (by rw[hst];omega)
   ·have ho':nP must (r,p)=false:=by unfold nP;simp[ho]
    rw[ho'] at hst;simp only[ho,decide_false,cond_false];exact ih2 _ (by rw[hst];simp)
  ·rintro q n rfl;have hlt2:decide ((bS t r:Int)<(bS t r:Int))=false:=decide_eq_false (by omega);simp only[lW,hP,Option.bind_some,hlt2,cond_false,bAi,List.filter_append,List.length_append]
 ·rintro k n rfl;have hlt:decide (((t.Rounds.toNat:Nat):Int)<t.Rounds)=false:=decide_eq_false (by omega);simp only[gK,hlt,cond_false,aDz]
  rfl
end
theorem bQg{t:aF}{l:List aB}{e:Int}(h:Stat t l e):pQ t l=some (0,e):=by
 unfold pQ;rw[aDu h,Option.bind_some];simp only[h.ne,Bool.not_false,cond_true]
theorem bMs{t:aF}{l:List aB}{d:List Int}(h:Good t l d){must:List (List Int)}(hd:cL t l=some (⟨d,must⟩,true))(hM:MustIs t must (fB d (Res l))):pQ t l=some (((aQr t must:Nat):Int),0):=by
 unfold pQ;exact(bWg _ _ (λdd=>gK t dd BIG 0 0) (λr2=>(0,r2)) (uO h) hd).trans (bSb h hM)
theorem bQh(t:aF)(l:List aB){o:Int×Int}(h:pQ t l=some o)(Q:Int×Int->Prop)(hq:Q o):xC t l Q:=by
 unfold xC
 rcases aCd t l with⟨d,hg⟩|⟨e,he⟩
 ·obtain⟨must,hd,hM⟩:=xQ hg;rw[bMs hg hd hM] at h;cases h;refine aEg hg λwon hW=>?_;have hl:=bXd hg hM hW;have h32:=hg.ht.len32;simp only[decide_true,Bool.not_true,cond_false];refine⟨_,rfl,_,rfl,?_⟩;have e:w64 (w64 ((t.Slots.length:Int)-1)-(((won.map λp:aA×Int=>((λa:aA=>Value.agg ((aC a).map bA).toArray) p.1,aD p.2)).length:Nat):Int))=((aQr t must:Nat):Int):=by
   rw[List.length_map,cD (show-9223372036854775808<=(t.Slots.length:Int)-1 by omega) (by omega),cD (by omega) (by omega)]
   omega
  show Q (w64 (w64 ((t.Slots.length:Int)-1)-(((won.map λp:aA×Int=>((λa:aA=>Value.agg ((aC a).map bA).toArray) p.1,aD p.2)).length:Nat):Int)),0);rw[e];exact hq
 ·rw[bQg he] at h;cases h;refine aHg he ?_;simp only[he.ne,Bool.not_false,cond_true];exact hq
def lE(d:List Int)(n:Int):Int:=match d.findIdx? (λx=>decide (n=x)) with|some i=>(i:Int)|none=> -1
theorem bHt{d:List Int}(hl:d.length<=1000)(n:Int):fJ d n=some (lE d n):=aAs d (by omega) n
theorem zO(d:List Int)(n:Int):(lE d n= -1/\∀a,a<d.length->d.getD a 0≠n)\/∃a:Nat,lE d n=(a:Int)/\a<d.length/\d.getD a 0=n:=by
 unfold lE;cases h:d.findIdx? (λx=>decide (n=x)) with
 | none=>
  refine .inl ⟨rfl,λa ha e=>?_⟩;rw[List.findIdx?_eq_none_iff] at h;have:=h _ (List.getElem_mem ha);rw[aW ha] at e
  simp[e] at this
 | some a=>
  obtain⟨h1,h2,_⟩:=List.findIdx?_eq_some_iff_getElem.1 h;refine .inr ⟨a,rfl,h1,?_⟩;rw[aW h1]
  simpa using(of_decide_eq_true h2).symm
theorem bBe{d:List Int}{must:List (List Int)}(hl:d.length<=1000)(n:Int):pU ⟨d,must⟩ n=some (lE d n):=by
 unfold pU lE;rw[dD (S:=Unit) (λk i _=>pC n ⟨d,must⟩ k i) d.length (λi _=>some (match(d.drop i).findIdx? (λx=>decide (n=x)) with|some j=>((i+j:Nat):Int)|none=> -1)) (λ_ _=>True) ?_ ?_ BIG () (bI (by omega)) trivial]
 ·simp
 ·intro k i _ hi _ ih;have:=ih () trivial;simp only[pC,aY hi,Option.bind_some,aZ (show i<9223372036854775807 by omega),Int.ofNat_lt,hi,decide_true,cond_true,this];rw[List.drop_eq_getElem_cons hi,List.findIdx?_cons]
  by_cases h:d[i]=n
  ·simp[h]
  ·have h':¬n=d[i]:=λe=>h e.symm;simp only[h,h',decide_false,cond_false,Bool.false_eq_true,if_false];cases List.findIdx? (λx=>decide (n=x)) (List.drop (i+1) d) with
   |none=>rfl
   |some j=>simp;omega
 ·intro k _ _
  simp[pC,aEb]
theorem bXc{t:aF}{l:List aB}{e:Int}(h:Stat t l e)(ps:List Int){Q:(Option aP×List Int×Int)->Prop}(hq:Q (none,[],e)):sV t l ps Q:=by
 unfold sV;refine aHg h ?_;simp only[h.ne,Bool.not_false,cond_true];exact hq
theorem bTp{t:aF}{l:List aB}{d:List Int}(hg:Good t l d){ps:List Int}(hp:ps.length<=1000){Q:(Option aP×List Int×Int)->Prop}
  (h1:(∃n∈ps,wi n 0 999=false)->Q (none,[],1))(h0:(∀n∈ps,wi n 0 999=true)->∀won,WonIs won (fB d (Res l))->Q (some ⟨t,d,won⟩,ps.map (lE d),0)):sV t l ps Q:=by
 have hlen:=hg.dok.len;have h32:=hg.ht.len32;unfold sV;refine aEg hg λwon hW=>?_;simp only[decide_true,Bool.not_true,cond_false];refine iZ (S:=List Int) (λk i slots=>oE Q ps ps.length k (some ⟨t,d,won⟩) i slots) ps.length (λx=>x) (λi slots=>slots=(ps.take i).map (lE d)/\∀n∈ps.take i,wi n 0 999=true) ?_ ?_ BIG 0 [] (bI (by omega)) ⟨by simp,by simp⟩
 ·rintro k i slots hi ⟨rfl,hall⟩ ih;have ht1:ps.take (i+1)=ps.take i++[ps[i]]:=List.take_succ_eq_append_getElem hi;simp only[oE,Int.ofNat_lt,hi,decide_true,cond_true,aY hi,xB,aZ (show i<9223372036854775807 by omega)];refine⟨_,rfl,_,rfl,?_⟩;cases hw:wi ps[i] 0 999 with
  | false=>
   simp only[Bool.not_false,cond_true];exact h1 ⟨_,List.getElem_mem hi,hw⟩
  | true=>
   simp only[Bool.not_true,cond_false];refine⟨_,rfl,_,bHt (show d.length<=1000 by omega) _,_,eE (by simp;omega),ih _ ⟨by rw[ht1,List.map_append];rfl,λn hn=>?_⟩⟩;rw[ht1,List.mem_append,List.mem_singleton] at hn
   rcases hn with hn|rfl
   ·exact hall n hn
   ·exact hw
 ·rintro k i slots hi ⟨rfl,hall⟩;have hlt:decide ((i:Int)<(ps.length:Int))=false:=decide_eq_false (by omega);have hta:ps.take i=ps:=List.take_of_length_le (by omega);rw[hta] at hall;simp only[oE,hlt,cond_false,aCo,hta];exact h0 hall won hW
def fA(t:aF)(a b:Nat):Nat:=mT (λr=>decide (a/2^(r+1)=b/2^(r+1))) t.Rounds.toNat
theorem bGz{bad:Nat->Bool}{n i:Nat}(hi:i<n)(hb:bad i=true)(hno:∀q,q<i->bad q=false):mT bad n=i:=by
 refine Nat.le_antisymm (Nat.le_of_not_lt λhlt=>?_) (Nat.le_of_not_lt λhlt=>?_)
 ·have:=(aJg hi).1 hlt i (Nat.le_refl _);rw[this] at hb;cases hb
 ·have:=aGq (bad:=bad) (n:=n) (by omega);rw[hno _ hlt] at this;cases this
theorem aGy{t:aF}(ht:TreeOK t){a b:Nat}(ha:a<t.Slots.length)(hb:b<t.Slots.length):fA t a b<t.Rounds.toNat:=by
 have h1:=ht.r1;rw[ht.len] at ha hb;refine Nat.lt_of_not_le λhle=>?_;have:=(aJg (bad:=λr=>decide (a/2^(r+1)=b/2^(r+1))) (n:=t.Rounds.toNat) (r:=t.Rounds.toNat-1) (by omega)).1 (by unfold fA at hle;omega) (t.Rounds.toNat-1) (Nat.le_refl _);have e:t.Rounds.toNat-1+1=t.Rounds.toNat:=by omega
 rw[decide_eq_false_iff_not,e,Nat.div_eq_of_lt ha,Nat.div_eq_of_lt hb] at this;exact this rfl
theorem bEl{t:aF}(ht:TreeOK t){a b:Nat}(ha:a<t.Slots.length)(hb:b<t.Slots.length):a/2^(fA t a b+1)=b/2^(fA t a b+1):=by
 have:=aGq (bad:=λr=>decide (a/2^(r+1)=b/2^(r+1))) (n:=t.Rounds.toNat) (aGy ht ha hb);exact of_decide_eq_true this
theorem bSg{t:aF}(ht:TreeOK t){a b:Nat}(ha:a<t.Slots.length)(hb:b<t.Slots.length){q:Nat}(hq:q<fA t a b):a/2^(q+1)≠b/2^(q+1):=by
 have hlt:=aGy ht ha hb;have:=(aJg (bad:=λr=>decide (a/2^(r+1)=b/2^(r+1))) (n:=t.Rounds.toNat) (r:=q) (by omega)).1 hq q (Nat.le_refl _);exact of_decide_eq_false this
def aWa(t:aF)(d:List Int)(must:List (List Int))(x y:Int):Int×Int:=
 if wi x 0 999=true/\wi y 0 999=true/\x≠y then(if lE d x<0\/lE d y<0 then(0,3) else
  (if mU d must (lE d x).toNat t<fA t (lE d x).toNat (lE d y).toNat\/mU d must (lE d y).toNat t<fA t (lE d x).toNat (lE d y).toNat then(0,3) else((fA t (lE d x).toNat (lE d y).toNat:Int),0))) else(0,1)
section
variable{t:aF}{l:List aB}{d:List Int}(hg:Good t l d){must:List (List Int)}(hM:MustIs t must (fB d (Res l)))
include hg hM
theorem bSh{a b:Nat}(ha:a<d.length)(hb:b<d.length):iS a b t ⟨d,must⟩ BIG 0=some (if mU d must a t<fA t a b\/mU d must b t<fA t a b then(0,3) else((fA t a b:Int),0)):=by
 have ht:=hg.ht;have hD:=hg.dok;have hlen:=hD.len;have h5:=ht.r5;have hm:=aGy ht (show a<t.Slots.length by omega) (show b<t.Slots.length by omega);have hme:=bEl ht (show a<t.Slots.length by omega) (show b<t.Slots.length by omega);have hmn:=λq hq=>bSg ht (show a<t.Slots.length by omega) (show b<t.Slots.length by omega) (q:=q) hq;have hsh:∀(i k:Nat),i<6->iS a b t ⟨d,must⟩ (k+1) i=bif !decide (a/2^(i+1)=b/2^(i+1)) then iS a b t ⟨d,must⟩ k ((i+1:Nat):Int) else sI a b i t ⟨d,must⟩:=by
  intro i k hi;have hw:w64 ((i:Int)+1)=((i+1:Nat):Int):=aZ (by omega);have hu:IntKind.u64.wrap ((i+1:Nat):Int)=((i+1:Nat):Int):=aAp (by omega) (by omega);have hch:chk (decide (0<=((i+1:Nat):Int)))=some ():=by unfold chk;rw[decide_eq_true (by omega)];rfl
  have hmin:min ((i+1:Nat):Int).toNat 64=i+1:=by omega
  have hdp:decide (((a/2^(i+1):Nat):Int)=((b/2^(i+1):Nat):Int))=decide (a/2^(i+1)=b/2^(i+1)):=by rw[Bool.eq_iff_iff];simp only[decide_eq_true_eq];omega
  simp only[iS,hw,hu,hch,hmin,aGo,Option.bind_some,hdp]
 have key:∀n i k,i+n=fA t a b->n<k->iS a b t ⟨d,must⟩ k i=sI a b (fA t a b) t ⟨d,must⟩:=by
  intro n
  induction n with
  | zero=>
   intro i k hi hk;have:i=fA t a b:=by omega
   subst this;cases k with
   |zero=>omega
   | succ k=>
    rw[hsh _ k (by omega),decide_eq_true hme]
    rfl
  | succ n ih=>
   intro i k hi hk;cases k with
   |zero=>omega
   | succ k=>
    rw[hsh _ k (by omega),decide_eq_false (hmn i (by omega))];exact ih (i+1) k (by omega) (by omega)
 rw[show(0:Int)=((0:Nat):Int) from rfl,key (fA t a b) 0 BIG (by omega) (bI (by omega))];unfold sI;have d1:decide ((mU d must a t:Int)<(fA t a b:Int))=decide (mU d must a t<fA t a b):=by rw[Bool.eq_iff_iff];simp only[decide_eq_true_eq];omega
 have d2:decide ((mU d must b t:Int)<(fA t a b:Int))=decide (mU d must b t<fA t a b):=by rw[Bool.eq_iff_iff];simp only[decide_eq_true_eq];omega
 simp only[bEr ht hD hM ha,bEr ht hD hM hb,Option.bind_some,d1,d2,dJ]
 by_cases h:mU d must a t<fA t a b\/mU d must b t<fA t a b
 ·have:(decide (mU d must a t<fA t a b)||decide (mU d must b t<fA t a b))=true:=by simpa using h
  rw[if_pos h,this];rfl
 ·have:(decide (mU d must a t<fA t a b)||decide (mU d must b t<fA t a b))=false:=by simpa using h
  rw[if_neg h,this];rfl
theorem bOf{won:List (aA×Int)}(hW:WonIs won (fB d (Res l))){a b:Nat}(ha:a<d.length)(hb:b<d.length){Q:Int×Int->Prop}(hq:Q (if mU d must a t<fA t a b\/mU d must b t<fA t a b then(0,3) else((fA t a b:Int),0))):
  mL Q (some ⟨t,d,won⟩) [(a:Int),(b:Int)] t.Rounds BIG 0:=by
 have ht:=hg.ht;have hD:=hg.dok;have hlen:=hD.len;have h1:=ht.r1;have h5:=ht.r5;have hm:=aGy ht (show a<t.Slots.length by omega) (show b<t.Slots.length by omega);refine iZ (S:=Unit) (λk i _=>mL Q (some ⟨t,d,won⟩) [(a:Int),(b:Int)] t.Rounds k i) t.Rounds.toNat (λx=>x) (λi _=>∀q,q<i->decide (a/2^(q+1)=b/2^(q+1))=false) ?_ ?_ BIG 0 () (bI (by omega)) (by simp)
 ·rintro k i _ hi hno ih;have hlt:decide ((i:Int)<t.Rounds)=true:=decide_eq_true (by omega);have i1:idx [(a:Int),(b:Int)] 1=some (b:Int):=rfl;have hdc:decide (cell a i=cell b i)=decide (a/2^(i+1)=b/2^(i+1)):=by
   rw[Bool.eq_iff_iff];simp only[decide_eq_true_eq,cell,aA.mk.injEq,true_and];omega
  simp only[mL,hlt,cond_true,aTi,i1,aMo (show i<=5 by omega),aZ (show i<9223372036854775807 by omega)];refine⟨_,rfl,_,aMo (by omega),_,rfl,_,aMo (by omega),?_⟩;simp only[hdc];cases he:decide (a/2^(i+1)=b/2^(i+1)) with
  | true=>
   have hmi:fA t a b=i:=bGz hi he hno;rw[hmi] at hq;simp only[cond_true];refine⟨_,rfl,_,rfl,_,bNa ht hD hM hW ha,_,rfl,_,bNa ht hD hM hW hb,?_⟩
   by_cases h:mU d must a t<i\/mU d must b t<i
   ·rw[if_pos h] at hq;rw[decide_eq_true (by omega)];exact hq
   ·rw[if_neg h] at hq;rw[decide_eq_false (by omega)];exact hq
  | false=>
   simp only[cond_false];refine ih () λq hq'=>?_
   by_cases hqi:q=i
   ·subst hqi;exact he
   ·exact hno q (by omega)
 ·rintro k i _ hi hno;exact absurd (hno _ (show fA t a b<i by omega)) (by rw[decide_eq_true (bEl ht (show a<t.Slots.length by omega) (show b<t.Slots.length by omega))];simp)
end
theorem bQi{t:aF}{l:List aB}{e:Int}(h:Stat t l e)(x y:Int):pR t l x y=some (0,e):=by
 unfold pR;rw[aDu h,Option.bind_some];simp only[h.ne,Bool.not_false,cond_true]
theorem bSi(A:Option Int)(B:Option (aJ×Bool))(w1 w2 e:Bool)(S:aJ->Option Int)(T:aJ->Option Int)(F:Int->Int->aJ->Option (Int×Int)){d:aJ}{a b:Int}(hA:A=some 0)(hB:B=some (d,true))(hS:S d=some a)(hT:T d=some b):
  (A.bind λr2=>bif !decide (r2=0) then(some (0,r2))
  else((some w1).bind λr3=>
  (bif !r3 then(some true) else((some w2).bind λr4=>some (!r4))).bind λb5=>
  (bif b5 then(some true) else(some e)).bind λb6=>
  bif b6 then(some (0,1))
  else(B.bind λr7=>
  (S r7.1).bind λr9=>
  (T r7.1).bind λr10=>
  (bif decide (r9<0) then(some true) else(some (decide (r10<0)))).bind λb11=>
  bif b11 then(some (0,3))
  else(F r9 r10 r7.1))))=bif (w1&&w2&&!e) then(bif decide (a<0)||decide (b<0) then some (0,3) else F a b d) else some (0,1):=by
 subst hA;subst hB;simp only[Option.bind_some,decide_true,Bool.not_true,cond_false,hS,hT,dJ];cases w1<;>cases w2<;>cases e<;>rfl
theorem aZg{t:aF}{l:List aB}{d:List Int}(hg:Good t l d){must:List (List Int)}(hd:cL t l=some (⟨d,must⟩,true))(hM:MustIs t must (fB d (Res l)))(x y:Int):pR t l x y=some (aWa t d must x y):=by
 have hlen:=hg.dok.len;have h32:=hg.ht.len32;unfold pR;rw[uF,uF];refine(bSi _ _ (wi x 0 999) (wi y 0 999) (decide (x=y)) (λdd=>pU dd x) (λdd=>pU dd y) (λa b dd=>iS a b t dd BIG 0) (uO hg) hd (bBe (by omega) x) (bBe (by omega) y)).trans ?_;unfold aWa
 by_cases hc:wi x 0 999=true/\wi y 0 999=true/\x≠y
 ·rw [if_pos hc,hc.1,hc.2.1,decide_eq_false hc.2.2];simp only[Bool.not_false,Bool.and_self,cond_true]
  by_cases hn:lE d x<0\/lE d y<0
  ·have:(decide (lE d x<0)||decide (lE d y<0))=true:=by simpa using hn
   rw[if_pos hn,this];rfl
  ·have:(decide (lE d x<0)||decide (lE d y<0))=false:=by simpa using hn
   rw[if_neg hn,this,cond_false]
   rcases zO d x with⟨h1,_⟩|⟨a,h1,ha,_⟩
   ·omega
   ·rcases zO d y with⟨h2,_⟩|⟨b,h2,hb,_⟩
    ·omega
    ·rw[h1,h2,bSh hg hM ha hb];rfl
 ·rw[if_neg hc];have:(wi x 0 999&&wi y 0 999&&!decide (x=y))=false:=by
   rw[Bool.eq_false_iff];intro h;simp only[Bool.and_eq_true,Bool.not_eq_true',decide_eq_false_iff_not] at h;exact hc ⟨h.1.1,h.1.2,h.2⟩
  rw[this];rfl
theorem min2(a b:Int):uG [a,b]=some (min a b):=by
 have key:=dD (S:=Int) (λk i m=>lI [a,b] k m ((i:Int)+1)) 1 (λi m=>some (if i=0 then min m b else m)) (λ_ _=>True) ?_ ?_ BIG a (bI (by omega)) trivial
 ·unfold uG;have h1:decide ((([a,b]:List Int).length:Int)<1)=false:=decide_eq_false (by simp);rw[h1,cond_false,aTi,Option.bind_some]
  simpa using key
 ·intro k i m hi _ ih;have:i=0:=by omega
  subst this;have h1:decide (((0:Nat):Int)+1<(([a,b]:List Int).length:Int))=true:=decide_eq_true (by simp);have i1:idx [a,b] (((0:Nat):Int)+1)=some b:=rfl;have w2:w64 (((0:Nat):Int)+1+1)=((0+1:Nat):Int)+1:=by decide+kernel
  simp only[lI,h1,cond_true,i1,Option.bind_some,w2,ih _ trivial]
  rfl
 ·intro k m _;have h1:decide (((1:Nat):Int)+1<(([a,b]:List Int).length:Int))=false:=decide_eq_false (by simp);simp only[lI,h1,cond_false,zC]
  rfl
theorem bQj(t:aF)(l:List aB)(x y:Int){o:Int×Int}(h:pR t l x y=some o)(Q:Int×Int->Prop)(hq:Q o):xD t l x y Q:=by
 unfold xD
 rcases aCd t l with⟨d,hg⟩|⟨e,he⟩
 ·obtain⟨must,hd,hM⟩:=xQ hg;rw[aZg hg hd hM] at h;cases h;unfold aWa at hq;refine bTp hg (by simp) (λ⟨z,hz,hw⟩=>?_) λhall won hW=>?_
  ·have hc:¬(wi x 0 999=true/\wi y 0 999=true/\x≠y):=by
    rintro⟨h1,h2,_⟩;simp only[List.mem_cons,List.not_mem_nil,or_false] at hz
    rcases hz with rfl|rfl
    ·rw[h1] at hw;cases hw
    ·rw[h2] at hw;cases hw
   rw[if_neg hc] at hq;exact hq
  ·have h1:=hall x (by simp);have h2:=hall y (by simp);simp only[decide_true,Bool.not_true,cond_false,List.map_cons,List.map_nil]
   by_cases he:x=y
   ·rw[if_neg (λhc=>hc.2.2 he)] at hq;rw[decide_eq_true he];exact hq
   ·rw [if_pos ⟨h1,h2,he⟩] at hq;rw[decide_eq_false he];simp only[cond_false];refine⟨_,min2 _ _,?_⟩
    by_cases hn:lE d x<0\/lE d y<0
    ·rw[if_pos hn] at hq;rw[decide_eq_true (by omega)];exact hq
    ·rw[if_neg hn] at hq;rw[decide_eq_false (by omega)]
     rcases zO d x with⟨g1,_⟩|⟨a,g1,ha,_⟩
     ·omega
     ·rcases zO d y with⟨g2,_⟩|⟨b,g2,hb,_⟩
      ·omega
      ·rw[g1,g2] at hq|-;exact⟨_,rfl,bOf hg hM hW ha hb hq⟩
 ·rw[bQi he] at h;cases h;refine bXc he _ ?_;simp only[he.ne,Bool.not_false,cond_true];exact hq
end Go.Am
end
section
namespace Go.Am
theorem aRh(a0:aF)(a1:List aB){r}(h:wQ a0 a1=some r)(Q:List aN×Int->Prop)(hq:Q r):vK a0 a1 Q:=bMq a0 a1 h Q hq
theorem aOl(a0:aF)(a1:List aB)(a2 a3:Int){r}(h:uV a0 a1 a2 a3=some r)(Q:Int×Int->Prop)(hq:Q r):tL a0 a1 a2 a3 Q:=bKb a0 a1 a2 a3 h Q hq
theorem aRi(a0:aF)(a1:List aB){r}(h:wR a0 a1=some r)(Q:Int->Prop)(hq:Q r):vL a0 a1 Q:=bMr a0 a1 h Q hq
theorem aSp(a0:aF)(a1:List aB){r}(h:yO a0 a1=some r)(Q:Int×Int->Prop)(hq:Q r):xC a0 a1 Q:=bQh a0 a1 h Q hq
theorem aSq(a0:aF)(a1:List aB)(a2 a3:Int){r}(h:yP a0 a1 a2 a3=some r)(Q:Int×Int->Prop)(hq:Q r):xD a0 a1 a2 a3 Q:=bQj a0 a1 a2 a3 h Q hq
end Go.Am
end
section
namespace Go.Am
end Go.Am
end
section
namespace Go.Am
end Go.Am
end
section
namespace Go.Am
end Go.Am
end
section
namespace Go.Am
section
variable{t:aF}{l:List aB}{d:List Int}(hg:Good t l d){must:List (List Int)}(hM:MustIs t must (fB d (Res l)))
include hg hM
end
end Go.Am
end
section
namespace Go.Am
end Go.Am
end
