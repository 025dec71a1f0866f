/- RefereeFiles, the plain law: files of scripts. -/
import Derived.Test.YtejdennodgdfhaaGreatDoorRf10Sh
import Derived.Test.YtejdennodgdfhaaGreatDoorRfWorks
import Derived.Test.YtejdennodgdfhaaGreatDoorAmPlain
namespace Go.Am
set_option maxRecDepth 100000
def aMj(a:Str):Bool:=a.all (λc=>!(decide (c.toNat<32)||decide (126<c.toNat)))&&decide (a.length<=30)
theorem aNj(a:Str)(h:a.length<=4611686018427387904):lK a=some (aMj a):=by
 have key:∀m k p,a.length-p=m->m<k->p<=a.length->gU a k p=some ((a.drop p).all (λc=>!(decide (c.toNat<32)||decide (126<c.toNat)))&&decide (a.length<=30)):=by
  intro m
  induction m with
  | zero=>
   intro k p hm hk hp;cases k with
   |zero=>omega
   | succ k=>
    have:p=a.length:=by omega
    subst this
    simp[gU]
  | succ m ih=>
   intro k p hm hk hp;cases k with
   |zero=>omega
   | succ k=>
    have hl:p<a.length:=by omega
    have ih':=ih k (p+1) (by omega) (by omega) (by omega);rw[List.drop_eq_getElem_cons hl];simp only[gU,List.getElem?_eq_getElem hl,List.all_cons];rw[ih'];cases hc:(decide (a[p].toNat<32)||decide (126<a[p].toNat))<;>simp
 have:=key a.length BIG 0 (by omega) (dB (by omega)) (by omega)
 simpa[lK,aMj] using this
theorem aUw(a:Str)(h:a.length<=4611686018427387904):kR a=some (aMj a):=by
 have hl:=vL (λk i=>eW a k i) a.length (λi=>match a[i]? with|some c=>!(decide (c.toNat<32)||decide (126<c.toNat))|none=>true) (some false) (some (decide (a.length<=30)))
  (λk i hi=>by
   have hs:sat a (i:Int)=some (a[i].toNat:Int):=by simp[sat,List.getElem?_eq_getElem hi]
   simp only[eW];rw[show decide ((i:Int)<(a.length:Int))=true from decide_eq_true (by omega),cond_true,hs,Option.bind_some,cD (by omega)];simp only[List.getElem?_eq_getElem hi,Option.bind_some];have e1:decide ((a[i].toNat:Int)<32)=decide (a[i].toNat<32):=decide_eq_decide.2 (by omega);have e2:decide ((126:Int)<(a[i].toNat:Int))=decide (126<a[i].toNat):=decide_eq_decide.2 (by omega);rw[e1,e2];cases decide (a[i].toNat<32)<;>cases decide (126<a[i].toNat)<;>rfl)
  (λk=>by
   simp only[eW];rw[show decide ((a.length:Int)<(a.length:Int))=false from decide_eq_false (by omega),cond_false,rE];rw[show decide ((a.length:Int)<=30)=decide (a.length<=30) from decide_eq_decide.2 (by omega)])
  BIG (dB (by omega))
 unfold kR aMj;rw[show eW a BIG 0=_ from hl];have e:(List.range a.length).all (λi=>match a[i]? with|some c=>!(decide (c.toNat<32)||decide (126<c.toNat))|none=>true)=a.all (λc=>!(decide (c.toNat<32)||decide (126<c.toNat))):=by
  rw[Bool.eq_iff_iff,List.all_eq_true,List.all_eq_true]
  constructor
  ·intro h c hc;obtain⟨i,hi,rfl⟩:=List.getElem_of_mem hc;have:=h i (List.mem_range.2 hi)
   rwa[List.getElem?_eq_getElem hi] at this
  ·intro h i hi;have hi:=List.mem_range.1 hi;rw[List.getElem?_eq_getElem hi];exact h _ (List.getElem_mem hi)
 rw[e];cases a.all (λc=>!(decide (c.toNat<32)||decide (126<c.toNat)))<;>rfl
def qB(l:Str):Nat:=(l.map (·.toNat)).sum
theorem aUe(l:Str)(i:Nat)(h:i<l.length):qB (l.take (i+1))=qB (l.take i)+l[i].toNat:=by
 rw[qB,qB,List.take_succ_eq_append_getElem h,List.map_append,List.sum_append_nat]
 rfl
theorem bBv(l:Str):qB l<=255*l.length:=by
 induction l with
 |nil=>simp[qB]
 | cons c l ih=>
  have:c.toNat<256:=c.toNat_lt
  simp[qB] at ih|-
  omega
theorem bUa:(List.range 97).all (λv=>decide (sub ([48,49,50,51,52,53,54,55,56,57]:Str) (w64 ((v:Int).tdiv 10)) (w64 ((w64 ((v:Int).tdiv 10))+1))=some [UInt8.ofNat (48+v/10)])&&
  decide (sub ([48,49,50,51,52,53,54,55,56,57]:Str) ((v:Int).tmod 10) (w64 (((v:Int).tmod 10)+1))=some [UInt8.ofNat (48+v % 10)])&&
  decide (bAg ([IntKind.u8.wrap (48+(IntKind.u8.wrap (w64 ((v:Int).tdiv 10)))),IntKind.u8.wrap (48+(IntKind.u8.wrap ((v:Int).tmod 10))),10])=[UInt8.ofNat (48+v/10),UInt8.ofNat (48+v % 10),10]))=true:=by kernel_rfl
theorem bTj:(List.range 26).all (λv=>decide (sub ([97,98,99,100,101,102,103,104,105,106,107,108,109,110,111,112,113,114,115,116,117,118,119,120,121,122]:Str) (v:Int) (w64 ((v:Int)+1))=some [UInt8.ofNat (97+v)])&&
  decide (bFk (IntKind.i32.wrap (w64 (97+(v:Int))))=[UInt8.ofNat (97+v)]))=true:=by kernel_rfl
def oK(b:Str):Str:=b++[124,UInt8.ofNat (48+qB b % 97/10),UInt8.ofNat (48+qB b % 97 % 10),10]
def yX(line:Str)(n:Nat):Str:=oK (UInt8.ofNat (97+n % 26)::line)
theorem bBh(line:Str)(n:Nat):(yX line n).length=line.length+5:=by simp[yX,oK]
theorem aVj(line:Str)(n:Nat)(h:line.length<=5000)(hn:n<=1000):nS line (n:Int)=some (yX line n)/\kS line (n:Int)=some (yX line n):=by
 have hm:(n:Int).tmod 26=((n % 26:Nat):Int):=rfl;have hh:=List.all_eq_true.1 bTj (n % 26) (List.mem_range.2 (Nat.mod_lt _ (by decide)));rw[Bool.and_eq_true,decide_eq_true_eq,decide_eq_true_eq] at hh;obtain⟨h1,h2⟩:=hh;have hb:mE [UInt8.ofNat (97+n % 26)] line=some (UInt8.ofNat (97+n % 26)::line):=by
  unfold mE;rw[if_pos (by simp;omega)];rfl
 generalize hB:UInt8.ofNat (97+n % 26)::line=b at hb
 have hbl:b.length=line.length+1:=by rw[<-hB];rfl
 have hs:qB b<=255*5001:=Nat.le_trans (bBv b) (by omega);have ht:=List.all_eq_true.1 bUa (qB b % 97) (List.mem_range.2 (Nat.mod_lt _ (by decide)));rw[Bool.and_eq_true,Bool.and_eq_true,decide_eq_true_eq,decide_eq_true_eq,decide_eq_true_eq] at ht;obtain⟨⟨t1,t2⟩,t3⟩:=ht;have ht97:(qB b:Int).tmod 97=((qB b % 97:Nat):Int):=rfl;have hadd:∀x y:Str,x.length+y.length<=100000->mE x y=some (x++y):=λx y hxy=>by unfold mE;rw[if_pos (by omega)]
 have k1:pT b (qB b:Int)=some (oK b):=by
  unfold pT;rw[ht97,t3,hadd _ _ (by simp;omega),Option.bind_some,hadd _ _ (by simp;omega),Option.bind_some]
  simp[oK]
 have k2:nB ([48,49,50,51,52,53,54,55,56,57]:Str) b (qB b:Int)=some (oK b):=by
  unfold nB;rw[ht97,t1,t2,hadd _ _ (by simp;omega),Option.bind_some,Option.bind_some,hadd _ _ (by simp;omega),Option.bind_some,Option.bind_some,hadd _ _ (by simp;omega),Option.bind_some,hadd _ _ (by simp;omega),Option.bind_some]
  simp[oK]
 have hle:∀i,i<=b.length->qB (b.take i)<=255*5001:=λi hi=>Nat.le_trans (bBv _) (by simp;omega);have l1:gQ b (sE b) ((sE b).length:Int) BIG 0 0=some (oK b):=by
  have:=iP (S:=Int) (λk i s=>gQ b (sE b) ((sE b).length:Int) k s i) b.length (λ_ _=>some (oK b)) (λi s=>s=(qB (b.take i):Int))
   (λk i s hi hI hrec=>by
    subst hI;have hx:idx (sE b) (i:Int)=some (b[i].toNat:Int):=by
     rw[cT (by simpa[sE] using hi)];simp[sE]
    have hc:b[i].toNat<256:=(b[i]).toNat_lt;have:=hle i (by omega);simp only[gQ];rw[show decide ((i:Int)<((sE b).length:Int))=true from decide_eq_true (by simp[sE];omega),cond_true,hx,Option.bind_some,cD (by omega),eK (n:=(b[i].toNat:Int)) (by omega) (by omega),eK (by omega) (by omega)];exact hrec _ (by rw[aUe b i hi];omega))
   (λk s hI=>by
    subst hI;simp only[gQ];rw[show decide ((b.length:Int)<((sE b).length:Int))=false from decide_eq_false (by simp[sE]),cond_false,List.take_length,k1])
   BIG 0 (dB (by omega)) (by simp[qB])
  exact this
 have l2:eX ([48,49,50,51,52,53,54,55,56,57]:Str) b BIG 0 0=some (oK b):=by
  have:=iP (S:=Int) (λk i s=>eX ([48,49,50,51,52,53,54,55,56,57]:Str) b k s i) b.length (λ_ _=>some (oK b)) (λi s=>s=(qB (b.take i):Int))
   (λk i s hi hI hrec=>by
    subst hI;have hx:sat b (i:Int)=some (b[i].toNat:Int):=by simp[sat,List.getElem?_eq_getElem hi]
    have hc:b[i].toNat<256:=(b[i]).toNat_lt;have:=hle i (by omega);simp only[eX];rw[show decide ((i:Int)<(b.length:Int))=true from decide_eq_true (by omega),cond_true,hx,Option.bind_some,cD (by omega),eK (n:=(b[i].toNat:Int)) (by omega) (by omega),eK (by omega) (by omega)];exact hrec _ (by rw[aUe b i hi];omega))
   (λk s hI=>by
    subst hI;simp only[eX];rw[show decide ((b.length:Int)<(b.length:Int))=false from decide_eq_false (by omega),cond_false,List.take_length,k2])
   BIG 0 (dB (by omega)) (by simp[qB])
  exact this
 constructor
 ·unfold nS;rw[hm,h2,hb,Option.bind_some,aXk,if_pos (by unfold maxLen;omega),Option.bind_some,l1,yX,hB]
 ·unfold kS;rw[hm,h1,Option.bind_some,hb,Option.bind_some,l2,yX,hB]
theorem bNj(l:List Str)(hl:l.length<=100)(hs:∀x∈l,x.length<=200):∃r,mT l=some r/\nY l=some r:=by
 have key:∀m k i out,l.length-i=m->m<k->i<=l.length->out.length<=300*i->∃r,gH l k (i:Int) out=some r/\gS l k out (i:Int)=some r:=by
  intro m
  induction m with
  | zero=>
   intro k i out hm hk hi ho;cases k with
   |zero=>omega
   | succ k=>
    have:i=l.length:=by omega
    subst this;refine⟨(out,0),?_,?_⟩
    ·simp[gH]
    ·simp[gS,sF]
  | succ m ih=>
   intro k i out hm hk hi ho;cases k with
   |zero=>omega
   | succ k=>
    have hi':i<l.length:=by omega
    have hx:l[i].length<=200:=hs _ (List.getElem_mem hi');obtain⟨r1,r2⟩:=aVj l[i] i (by omega) (by omega);have hrl:=bBh l[i] i;simp only[gH,gS];rw[show decide ((i:Int)<(l.length:Int))=true from decide_eq_true (by omega)];simp only[cond_true,cT hi',Option.bind_some,aNj l[i] (by omega),aUw l[i] (by omega),r1,r2];cases aMj l[i] with
    |false=>exact⟨([],121),rfl,rfl⟩
    | true=>
     obtain⟨r,h1,h2⟩:=ih k (i+1) (out++yX l[i] i) (by omega) (by omega) (by omega) (by simp[hrl];omega);refine⟨r,?_,?_⟩
     ·simp only[Bool.not_true,cond_false];rw[show decide (out.length+(yX l[i] i).length<=140737488355328)=true from decide_eq_true (by omega),cond_true,cD (by omega),h1]
     ·simp only[Bool.not_true,cond_false];rw[show mE out (yX l[i] i)=some (out++yX l[i] i) from by unfold mE;rw[if_pos (by omega)],Option.bind_some,cD (by omega),h2]
 obtain⟨r,h1,h2⟩:=key l.length BIG 0 [] (by omega) (dB (by omega)) (by omega) (by simp);unfold mT nY;rw[show decide ((80:Int)<(l.length:Int))=decide (80<l.length) from decide_eq_decide.2 (by omega)];cases decide (80<l.length) with
 |true=>exact⟨([],2),by rw[cond_true],by rw[cond_true]⟩
 |false=>exact⟨r,by rw[cond_false];exact h1,by rw[cond_false];exact h2⟩
theorem bEv(s:Str)(i:Nat):Lib.occAt s [10] i=decide (s[i]?=some 10):=by
 unfold Lib.occAt
 by_cases hi:i<s.length
 ·rw [List.drop_eq_getElem_cons hi,List.getElem?_eq_getElem hi]
  by_cases h:s[i]=10
  ·rw[h];simp[List.isPrefixOf]
  ·rw[show [(10:UInt8)].isPrefixOf (s[i]::s.drop (i+1))=false from by
    rw[List.isPrefixOf,beq_eq_false_iff_ne.2 (λe=>h e.symm)];rfl]
   exact(decide_eq_false λe=>h (Option.some.inj e)).symm
 ·rw[List.drop_eq_nil_of_le (by omega),List.getElem?_eq_none (by omega)]
  simp
theorem bCx(again:Str->List Str->Option (List Str×Int×Int))(s:Str)(n:Int)(sc:List Str)(e:Nat)(he:e<=s.length)(hl:s.length<=5000)(hno:∀j,j<e->s[j]?≠some 10)(hat:s[e]?=some 10\/e=s.length):
  fU again s n sc BIG 0=jV again s n (e:Int) sc:=by
 have key:∀m k i,e-i=m->m<k->i<=e->fU again s n sc k (i:Int)=jV again s n (e:Int) sc:=by
  intro m
  induction m with
  | zero=>
   intro k i hm hk hi;cases k with
   |zero=>omega
   | succ k=>
    have:i=e:=by omega
    subst this;simp only[fU]
    rcases hat with h|h
    ·have hlt:i<s.length:=by
      rcases Nat.lt_or_ge i s.length with h'|h'
      ·exact h'
      ·rw[List.getElem?_eq_none h'] at h;cases h
     rw[show decide ((i:Int)<(s.length:Int))=true from decide_eq_true (by omega),cond_true,show sat s (i:Int)=some 10 from by simp[sat,h]]
     rfl
    ·rw[show decide ((i:Int)<(s.length:Int))=false from decide_eq_false (by omega)]
     rfl
  | succ m ih=>
   intro k i hm hk hi;cases k with
   |zero=>omega
   | succ k=>
    have hlt:i<s.length:=by omega
    have hn:=hno i (by omega);rw[List.getElem?_eq_getElem hlt] at hn;have hne:s[i].toNat≠10:=λh=>hn (congrArg some (UInt8.toNat_inj.1 h));simp only[fU];rw[show decide ((i:Int)<(s.length:Int))=true from decide_eq_true (by omega),cond_true,show sat s (i:Int)=some (s[i].toNat:Int) from by simp[sat,List.getElem?_eq_getElem hlt],Option.bind_some,
     show decide ((s[i].toNat:Int)=10)=false from decide_eq_false (by omega),cD (by omega),ih k (i+1) (by omega) (by omega) (by omega)]
    rfl
 exact key e BIG 0 (by omega) (dB (by omega)) (by omega)
theorem bPw(t0:Str)(ht0:t0.length<=4000):∃r:List Str×Int×Int,xL t0=some r/\sN t0=some r/\r.1.length<=80:=by
 have key:∀m k (t:Str) (sc:List Str),t.length<=m->m<k->t.length<=4000->sc.length<=80->
   ∃r:List Str×Int×Int,mQ k t (sc.length:Int) sc=some r/\iH k t sc=some r/\r.1.length<=80:=by
  intro m
  induction m with
  | zero=>
   intro k t sc hm hk ht hsc;cases k with
   |zero=>omega
   | succ k=>
    obtain rfl:t=[]:=List.eq_nil_of_length_eq_zero (by omega);exact⟨(sc,0,0),rfl,rfl,hsc⟩
  | succ m ih=>
   intro k t sc hm hk ht hsc;cases k with
   |zero=>omega
   | succ k=>
    by_cases hz:t=[]
    ·subst hz;exact⟨(sc,0,0),rfl,rfl,hsc⟩
    have hpos:0<t.length:=List.length_pos_iff.2 hz;simp only[mQ,iH];rw[show decide (t=[])=false from decide_eq_false hz,show decide ((0:Int)<(t.length:Int))=true from decide_eq_true (by omega)];simp only[Bool.not_false,cond_true];rw[show strings_Cut t [10]=some (Lib.cut t [10]) from by unfold strings_Cut bEd;rw[if_pos (by omega)],Option.bind_some]
    rcases Lib.index_spec t [10] with⟨h1,h2⟩|⟨e,h1,h2,h3,h4⟩
    ·have hc:Lib.cut t [10]=(t,[],false):=by unfold Lib.cut;rw[if_neg (by omega)]
     rw[hc,show mE t [10]=some (t++[10]) from by unfold mE;rw[if_pos (by simp;omega)],Option.bind_some];refine⟨([],sc.length,122),?_,?_,by simp⟩
     ·cases decide ((80:Int)<=(sc.length:Int))<;>rfl
     ·rw[bCx _ t _ sc t.length (Nat.le_refl _) (by omega) (λj hj=>by
       have:=h2 j (by omega);rw[bEv] at this;exact of_decide_eq_false this) (.inr rfl)]
      unfold jV;rw[show decide ((t.length:Int)=(t.length:Int))=true from decide_eq_true rfl];cases decide ((sc.length:Int)=80)<;>rfl
    ·rw [bEv,decide_eq_true_eq] at h3;have hlt:e<t.length:=by
      rcases Nat.lt_or_ge e t.length with h'|h'
      ·exact h'
      ·rw[List.getElem?_eq_none h'] at h3;cases h3
     have hte:t[e]=10:=by rw[List.getElem?_eq_getElem hlt] at h3;exact Option.some.inj h3
     have hc:Lib.cut t [10]=(t.take e,t.drop (e+1),true):=by
      unfold Lib.cut;rw[if_pos (by omega),h1]
      simp
     have hx3:t.take e++[10]=t.take (e+1):=by rw[List.take_succ_eq_append_getElem hlt,hte]
     have hx3l:(t.take (e+1)).length=e+1:=by simp;omega
     rw [hc];simp only[];rw[show mE (t.take e) [10]=some (t.take (e+1)) from by unfold mE;rw[if_pos (by simp;omega),hx3],Option.bind_some,hx3l];rw[bCx _ t _ sc e (by omega) (by omega) (λj hj=>by
       have:=h4 j hj;rw[bEv] at this;exact of_decide_eq_false this) (.inl h3)]
     unfold jV;rw[show decide ((e:Int)=(t.length:Int))=false from decide_eq_false (by omega),show decide ((80:Int)<=(sc.length:Int))=decide ((sc.length:Int)=80) from decide_eq_decide.2 (by omega)]
     by_cases h80:(sc.length:Int)=80
     ·rw[decide_eq_true h80];exact⟨([],sc.length,122),rfl,rfl,by simp⟩
     rw[decide_eq_false h80];simp only[cond_false,Option.bind_some,Bool.not_true];rw[show decide (((e+1:Nat):Int)<5)=decide ((e:Int)<4) from decide_eq_decide.2 (by omega)]
     by_cases h5:(e:Int)<4
     ·rw[decide_eq_true h5];exact⟨([],sc.length,122),rfl,rfl,by simp⟩
     rw[decide_eq_false h5];simp only[cond_false,Option.bind_some];have w1:w64 (((e+1:Nat):Int)-4)=((e-3:Nat):Int):=by rw[eK (by omega) (by omega)];omega
     have w2:w64 ((e:Int)-3)=((e-3:Nat):Int):=by rw[eK (by omega) (by omega)];omega
     have w3:w64 ((e:Int)+1)=((e+1:Nat):Int):=cD (by omega);rw[w1,w2,w3];have s1:sub (t.take (e+1)) 1 ((e-3:Nat):Int)=some ((t.take (e-3)).drop 1):=by
      unfold sub;rw[if_pos ⟨by omega,by omega,by simp;omega⟩];simp only[Int.toNat_natCast,List.take_take,show min (e-3) (e+1)=e-3 from by omega]
      rfl
     have s2:sub t 1 ((e-3:Nat):Int)=some ((t.take (e-3)).drop 1):=by
      unfold sub;rw[if_pos ⟨by omega,by omega,by omega⟩]
      simp
     have s3:sub t 0 ((e+1:Nat):Int)=some (t.take (e+1)):=by
      unfold sub;rw[if_pos ⟨by omega,by omega,by omega⟩]
      simp
     have s4:sub t ((e+1:Nat):Int) (t.length:Int)=some (t.drop (e+1)):=by
      unfold sub;rw[if_pos ⟨by omega,by omega,by omega⟩]
      simp
     rw[s1,s2,s3,s4];have hxl:((t.take (e-3)).drop 1).length<=4000:=by simp;omega
     generalize(t.take (e-3)).drop 1=x at hxl
     obtain⟨r1,r2⟩:=aVj x sc.length (by omega) (by omega);simp only[Option.bind_some,aNj x (by omega),aUw x (by omega),r1,r2];rw[show decide (t.take (e+1)=yX x sc.length)=decide (yX x sc.length=t.take (e+1)) from decide_eq_decide.2 ⟨Eq.symm,Eq.symm⟩];cases aMj x with
     |false=>exact⟨([],sc.length,122),rfl,rfl,by simp⟩
     | true=>
      cases decide (yX x sc.length=t.take (e+1)) with
      |false=>exact⟨([],sc.length,122),rfl,rfl,by simp⟩
      | true=>
       simp only[Bool.not_true,cond_false,Option.bind_some];rw[jZ (by simp;omega),Option.bind_some];obtain⟨r,g1,g2,g3⟩:=ih k (t.drop (e+1)) (sc++[x]) (by simp;omega) (by omega) (by simp;omega) (by simp;omega);refine⟨r,?_,?_,g3⟩
       ·rw[cD (by omega)]
        simpa using g1
       ·exact g2
 obtain⟨r,h1,h2,h3⟩:=key 4000 BIG t0 [] ht0 (dB (by omega)) ht0 (by simp);exact⟨r,h1,h2,h3⟩
theorem bBp(a:List Str)(h:a.length<=1000):iN a a=some true:=by
 unfold iN;rw[decide_eq_true rfl];have hl:=vL (λk i=>dZ a a k i) a.length (λ_=>true) (some false) (some true)
  (λk i hi=>by
   simp only[dZ];rw[show decide ((i:Int)<(a.length:Int))=true from decide_eq_true (by omega),cond_true,cT hi,Option.bind_some,Option.bind_some,decide_eq_true rfl,cD (by omega)]
   rfl)
  (λk=>by
   simp only[dZ];rw[show decide ((a.length:Int)<(a.length:Int))=false from decide_eq_false (by omega)]
   rfl)
  BIG (dB (by omega))
 rw[show dZ a a BIG 0=_ from hl,show(List.range a.length).all (λ_=>true)=true from qU.2 λ_ _=>rfl]
 rfl
theorem yL(script:List Str)(text:Str)(h1:okL okS script)(h2:okS text):lE script text=some true:=by
 unfold lE
 by_cases hl:(100:Int)<(script.length:Int)
 ·rw[decide_eq_true hl]
  simp[aNd]
 by_cases ht:(4000:Int)<(text.length:Int)
 ·rw[decide_eq_false hl,decide_eq_true ht]
  simp[aNd]
 rw [decide_eq_false hl,decide_eq_false ht];simp only[cond_false,Option.bind_some];have hk:(∀x∈script,x.length<=200)->gJ script text=some true:=by
  intro hs;obtain⟨w,w1,w2⟩:=bNj script (by omega) hs;obtain⟨r,r1,r2,r3⟩:=bPw text (by omega);unfold gJ;rw[show mW script=some script from by
   unfold mW;rw[jZ (by simp;omega)]
   rfl]
  rw[Option.bind_some,w1,w2,r1,r2]
  simp[bBp r.1 (by omega),aNd]
 have hl2:=vL (λk i=>dK script text k i) script.length (λi=>decide (∀h:i<script.length,script[i].length<=200)) (some true) (gJ script text)
  (λk i hi=>by
   simp only[dK];rw[show decide ((i:Int)<(script.length:Int))=true from decide_eq_true (by omega),cond_true,cT hi,Option.bind_some,cD (by omega)]
   by_cases h:script[i].length<=200
   ·rw[decide_eq_false (by omega),decide_eq_true (λ_=>h)]
    rfl
   ·rw[decide_eq_true (by omega),decide_eq_false (λg=>h (g hi)),aNd]
    rfl)
  (λk=>by
   simp only[dK];rw[show decide ((script.length:Int)<(script.length:Int))=false from decide_eq_false (by omega)]
   rfl)
  BIG (dB (by omega))
 rw[show dK script text BIG 0=_ from hl2];cases hg:(List.range script.length).all (λi=>decide (∀h:i<script.length,script[i].length<=200)) with
 |false=>rfl
 | true=>
  rw[cond_true];refine hk λx hx=>?_;obtain⟨i,hi,rfl⟩:=List.getElem_of_mem hx;have:=qU.1 hg i hi;exact of_decide_eq_true this hi
end Go.Am
