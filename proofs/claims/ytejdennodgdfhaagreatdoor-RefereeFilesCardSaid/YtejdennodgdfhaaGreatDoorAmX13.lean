/- Walks by reckoning: functions that are handed a box with its slices. -/
import Derived.Test.YtejdennodgdfhaaGreatDoorAmSub
import Derived.Test.YtejdennodgdfhaaGreatDoorAmClo
namespace Go.Am
def bRw(h:Nat):Option MO:=bif Nat.ble 1000000000 h then some (.arr (.slice none 0 0) ((h-1000000000)/1000) ((h-1000000000) % 1000) []) else none
def aMz:List Nat->List (Nat×VO)->(List (Nat×VO)->Prop)->Prop
 |[],_,K=>K []
 | h::hs,objs,K=>match bRw h with
  |some m=>aMz hs objs λps=>K ((h,.raw m)::ps)
  | none=>match ob objs h with
   |some m=>aMz hs (iA h objs) λps=>K ((h,m)::ps)
   |none=>False
theorem aNa[Mode]{ρ:Rho}:∀{hs:List Nat} {objs:List (Nat×VO)} {K:List (Nat×VO)->Prop},aMz hs objs K->∃ps rest nils,K ps/\((objs.map λp=>ρ.mo p.1 p.2)++nils).Perm ((ps.map λp=>ρ.mo p.1 p.2)++rest)/\∀env l,Ent ⟨env,l⟩ ⟨env,l++nils⟩
 |[],objs,K,h=>⟨[],objs.map λp=>ρ.mo p.1 p.2,[],h,by simp,λenv l=>by rw[List.append_nil];exact Ent.refl _⟩
 | g ::hs,objs,K,h=>by
  simp only[aMz] at h;split at h
  ·rename_i m hm
   obtain⟨ps,rest,nils,hk,hp,hn⟩:=aNa (ρ:=ρ) (K:=λps=>K ((g,.raw m)::ps)) h;refine⟨_,rest,m::nils,hk,List.perm_middle.trans (.cons _ hp),λenv l=>?_⟩;have hm':m=.arr (.slice none 0 0) ((g-1000000000)/1000) ((g-1000000000) % 1000) []:=by
    unfold bRw at hm;cases hb:Nat.ble 1000000000 g with
    |true=>rw[hb] at hm;exact(Option.some.inj hm).symm
    |false=>rw[hb] at hm;cases hm
   have h1:=(gF ((g-1000000000)/1000) ((g-1000000000) % 1000) (env:=env) (objs:=l)).trans (hn env _);rw[hm']
   rwa[List.append_assoc] at h1
  ·split at h
   ·rename_i m hm
    obtain⟨ps,rest,nils,hk,hp,hn⟩:=aNa (ρ:=ρ) (K:=λps=>K ((g,m)::ps)) h;obtain⟨i,_,_,h3⟩:=zK (ρ:=ρ) hm;refine⟨_,rest,nils,hk,?_,hn⟩;have:=List.Perm.append_right nils h3;exact this.trans (.cons _ hp)
   ·exact h.elim
def bFh{P:Program}(T:TT P)(S:VS)(r:AV):List ResultVar->Prop
 |[x]=>rdV T S x λv=>v=r/\okA r=true
 |[]=>r=.tup []
 |_=>False
theorem aZu{P:Program}{T:TT P}{S:VS}{r:AV}{rs:List ResultVar}{ρ:Rho}(h:bFh T S r rs):ResW P (S.at ρ) rs r:=by
 unfold bFh at h;split at h
 ·obtain⟨v,⟨rfl,h2⟩,hv⟩:=aIk (ρ:=ρ) h;rw[aRc ρ h2] at hv;exact .one hv
 ·subst h;exact .none
 ·exact h.elim
theorem bBt{l n:List MO}{i:Nat}{m:MO}(h:l[i]?=some m):(l++n)[i]?=some m:=by
 rw[List.getElem?_append_left (List.getElem?_eq_some_iff.1 h).1];exact h
theorem RVc.app{P:Program}{env:Nat->AV}{l n:List MO}{x:ResultVar}{r:AV}(h:RVc P ⟨env,l⟩ x r):RVc P ⟨env,l++n⟩ x r:=by
 cases h with
 |tmp t h=>exact .tmp t h
 |cell a t ha ho ht he hl=>exact .cell a t ha (bBt ho) ht he hl
 |cell1 a t ha ho ht he=>exact .cell1 a t ha (bBt ho) ht he
theorem ResW.app{P:Program}{env:Nat->AV}{l n:List MO}{rs:List ResultVar}{r:AV}(h:ResW P ⟨env,l⟩ rs r):ResW P ⟨env,l++n⟩ rs r:=by
 cases h with
 |one h=>exact .one h.app
 |two h h2=>exact .two h.app h2.app
 |three h h2 h3=>exact .three h.app h2.app h3.app
 |none=>exact .none
def mL(l:List (Nat×Nat×Value)):sV:=λh=>l.getD (h-100000) (0,0,undef)
theorem bEh[Mode]{P:Program}(T:TT P)(X:XP)(bt:List (Nat×Nat×Value)){f:FuncId}{fn:Func}{c:Code}(args:List AV)(objs:List (Nat×VO)){args':List AV}{objs':List MO}{r:AV}{N:Nat}{Q:AV->List MO->Prop}(rs:List ResultVar)
  (hf:P.funcs[f]?=some fn)(hr:fn.results=rs.toArray)(hn:fn.ntmps=N)
  (h:rK T N (mL bt) X c ⟨vJ 0 args,objs⟩ λe S=>e=.ret/\∃hs,aMz hs S.objs λps=>bFh T S r rs/\∀b o s bs ck,Q r (ps.map λp=>(Rho.mk (mL bt) b o s bs ck).mo p.1 p.2))
  (hb:fn.body=some c:=by exact rfl)(ha:Nat.ble args.length N=true:=by exact rfl)
  (e1:args.map (tP (mL bt)).av=args':=by kernel_rfl)(e2:(objs.map λp=>(tP (mL bt)).mo p.1 p.2)=objs':=by kernel_rfl):bI P f args' objs' Q:=by
 subst e1;subst e2;refine cB hf hb hr hn (by rw[List.length_map];exact Nat.le_of_ble_eq_true ha) ?_;have hent:Ent ⟨entry (args.map (tP (mL bt)).av),objs.map λp=>(tP (mL bt)).mo p.1 p.2⟩ ((VS.mk (vJ 0 args) objs).at (tP (mL bt))):=by
  refine vY ?_;have e:entry (args.map (tP (mL bt)).av)=λk=>(tP (mL bt)).av (lk (vJ 0 args) k):=by
   funext k
   have h2:=aMl (l:=args) (k:=0) (j:=k);rw[Nat.zero_add] at h2;rw[h2];simp only[entry,List.getD,List.getElem?_map];cases args[k]?<;>rfl
  rw[e];rfl
 refine aTt (dA hent (rY h _ rfl)) ?_;rintro e s ⟨S',ρ',hβ,⟨he,hs,hob⟩,hE⟩;obtain⟨ps,rest,nils,⟨hres,hq⟩,hp,hn⟩:=aNa (ρ:=ρ') hob;refine⟨_,hE.trans (hn _ _),λ_=>⟨he,?_⟩⟩;refine⟨r,_,rest,r,(aZu hres).app,hp,.same _,?_⟩;obtain⟨β,b,o,sv,bs,ck⟩:=ρ';have:β=mL bt:=hβ;subst this;exact hq b o sv bs ck
theorem bUi[Mode]{P:Program}(T:TT P)(X:XP)(bt:List (Nat×Nat×Value)){f:FuncId}{fn:Func}{c:Code}(args:List AV)(objs:List (Nat×VO)){args':List AV}{objs':List MO}{r:AV}{N:Nat}{Q:AV->List MO->Prop}(rs:List ResultVar)
  (hf:P.funcs[f]?=some fn)(hr:fn.results=rs.toArray)(hn:fn.ntmps=N)
  (h:rK T N (mL bt) X c ⟨vJ 0 args,objs⟩ λe S=>(e=.ret\/e=.normal)/\∃hs,aMz hs S.objs λps=>bFh T S r rs/\∀b o s bs ck,Q r (ps.map λp=>(Rho.mk (mL bt) b o s bs ck).mo p.1 p.2))
  (hb:fn.body=some c:=by exact rfl)(ha:Nat.ble args.length N=true:=by exact rfl)
  (e1:args.map (tP (mL bt)).av=args':=by kernel_rfl)(e2:(objs.map λp=>(tP (mL bt)).mo p.1 p.2)=objs':=by kernel_rfl):bI P f args' objs' Q:=by
 subst e1;subst e2;refine uQ hf hb hr hn (by rw[List.length_map];exact Nat.le_of_ble_eq_true ha) ?_;have hent:Ent ⟨entry (args.map (tP (mL bt)).av),objs.map λp=>(tP (mL bt)).mo p.1 p.2⟩ ((VS.mk (vJ 0 args) objs).at (tP (mL bt))):=by
  refine vY ?_;have e:entry (args.map (tP (mL bt)).av)=λk=>(tP (mL bt)).av (lk (vJ 0 args) k):=by
   funext k
   have h2:=aMl (l:=args) (k:=0) (j:=k);rw[Nat.zero_add] at h2;rw[h2];simp only[entry,List.getD,List.getElem?_map];cases args[k]?<;>rfl
  rw[e];rfl
 refine aTt (dA hent (rY h _ rfl)) ?_;rintro e s ⟨S',ρ',hβ,⟨he,hs,hob⟩,hE⟩;obtain⟨ps,rest,nils,⟨hres,hq⟩,hp,hn⟩:=aNa (ρ:=ρ') hob
 suffices key:Q r (ps.map λp=>ρ'.mo p.1 p.2) by
  refine⟨_,hE.trans (hn _ _),λ_=>?_⟩
  rcases he with rfl|rfl
  ·exact⟨rfl,r,_,rest,r,(aZu hres).app,hp,.same _,key⟩
  ·exact⟨r,_,rest,r,(aZu hres).app,hp,.same _,key⟩
 obtain⟨β,b,o,sv,bs,ck⟩:=ρ';have:β=mL bt:=hβ;subst this;exact hq b o sv bs ck
theorem bEc{P:Program}{st st':St}{c:Callee}{l:List Operand}{f:FuncId}{a:List AV}(h:kL P st c l f a)(he:st'.env=st.env):kL P st' c l f a:=by
 have hev:∀l,st'.evals l=st.evals l:=by
  intro l;have:∀x,st'.eval x=st.eval x:=λx=>by cases x<;>simp[St.eval,he]
  induction l with
  |nil=>rfl
  |cons x l ih=>simp only[St.evals,this x,ih]
 cases h with
 |func f l h=>rw[<-hev l];exact .func f l h
 |clo t f caps l h ht=>rw[<-hev l];exact .clo t f caps l h (by rw[he];exact ht)
 |fc t f m xs l h ht=>rw[<-hev l];exact .fc t f m xs l h (by rw[he];exact ht)
def Rho.setL(ρ:Rho):List Nat->List Value->Rho
 |h::hs,v::vs=>(ρ.setS h v).setL hs vs
 |_,_=>ρ
theorem bJl{ρ:Rho}:∀{hs:List Nat} {vs:List Value},(ρ.setL hs vs).β=ρ.β
 |[],_=>by simp[Rho.setL]
 |_::_,[]=>by simp[Rho.setL]
 |h::hs,v::vs=>by simp only[Rho.setL];rw[bJl];rfl
theorem bCz{S:VS}:∀{hs:List Nat} {vs:List Value} {ρ:Rho},(∀h∈hs,kZ h S=false)->S.at (ρ.setL hs vs)=S.at ρ
 |[],_,_,_=>by simp[Rho.setL]
 |_::_,[],_,_=>by simp[Rho.setL]
 | h::hs,v::vs,ρ,ho=>by
  simp only[Rho.setL];rw[bCz λk hk=>ho k (List.mem_cons_of_mem _ hk)];exact(aDe v).at (ho h (by simp))
def qC:List Nat->List (Nat×VO)->List (Nat×VO)
 |[],l=>l
 |h::hs,l=>qC hs (iA h l)
def aSt(h:Nat)(hs:List Nat):Bool:=hs.all λk=>!(Nat.beq h k)
def aFk:List Nat->Bool
 |[]=>true
 |h::hs=>aSt h hs&&aFk hs
theorem aZe{h k:Nat}(hk:Nat.beq h k=false):∀{l:List (Nat×VO)},ob (iA h l) k=ob l k
 |[]=>rfl
 | p::l=>by
  simp only[iA];cases hb:Nat.beq p.1 h with
  | true=>
   have:=Nat.eq_of_beq_eq_true hb;simp only[cond_true,ob];rw[this,hk];rfl
  | false=>
   simp only[cond_false,ob];cases Nat.beq p.1 k with
   |true=>rfl
   |false=>exact aZe hk
theorem bCm{k:Nat}:∀{hs:List Nat} {l:List (Nat×VO)},aSt k hs=true->ob (qC hs l) k=ob l k
 |[],_,_=>rfl
 | h::hs,l,hd=>by
  simp only[aSt,List.all_cons,Bool.and_eq_true,Bool.not_eq_true'] at hd;simp only[qC];rw[bCm (by simp only[aSt];exact hd.2)];refine aZe ?_;cases hb:Nat.beq h k with
  |false=>rfl
  |true=>have:=Nat.eq_of_beq_eq_true hb;subst this;rw[Nat.beq_refl] at hd;cases hd.1
theorem aXv{ρ:Rho}:∀{ps:List (Nat×VO)} {l:List (Nat×VO)},aFk (ps.map (·.1))=true->(∀p∈ps,ob l p.1=some p.2)->(l.map λp=>ρ.mo p.1 p.2).Perm ((ps.map λp=>ρ.mo p.1 p.2)++(qC (ps.map (·.1)) l).map λp=>ρ.mo p.1 p.2)
 |[],l,_,_=>by simp[qC]
 | p::ps,l,hn,ho=>by
  simp only[List.map_cons,aFk,Bool.and_eq_true] at hn;obtain⟨i,_,_,h3⟩:=zK (ρ:=ρ) (ho p (by simp));have ih:=aXv (ρ:=ρ) (ps:=ps) (l:=iA p.1 l) hn.2 λq hq=>by
   rw[aZe ?_]
   ·exact ho q (List.mem_cons_of_mem _ hq)
   ·have:=hn.1;simp only[aSt,List.all_eq_true,Bool.not_eq_true'] at this;exact this _ (List.mem_map.2 ⟨q,hq,rfl⟩)
  simp only[List.map_cons,List.cons_append,qC];exact h3.trans (.cons _ ih)
theorem aXo:∀{hs:List Nat} {l:List (Nat×VO)} {c:List (Nat×Option VO)},chg (hs.map (λh=>(h,none))++c) l=chg c (qC hs l)
 |[],_,_=>rfl
 |h::hs,l,c=>by simp only[List.map_cons,List.cons_append,chg,qC];exact aXo
theorem aXt{h:Nat}:∀{hs:List Nat} {l:List (Nat×VO)},l.any (λp=>Nat.beq p.1 h||uN h p.2)=false->(qC hs l).any (λp=>Nat.beq p.1 h||uN h p.2)=false
 |[],_,hl=>hl
 |k::hs,l,hl=>by simp only[qC];exact aXt (aCs hl)
theorem aXp:∀{ns:List (Nat×VO)} {l:List (Nat×VO)},aFk (ns.map (·.1))=true->(∀p∈ns,l.any (λq=>Nat.beq q.1 p.1)=false)->chg (ns.map λp=>(p.1,some p.2)) l=l++ns
 |[],l,_,_=>by simp[chg]
 | p ::ns,l,hn,hl=>by
  simp only[List.map_cons,aFk,Bool.and_eq_true] at hn;simp only[List.map_cons,chg];have e:iB p.1 p.2 l=l++[p]:=by
   have h0:=hl p (by simp)
   clear hl
   induction l with
   |nil=>rfl
   | cons q l ih=>
    simp only[List.any_cons,Bool.or_eq_false_iff] at h0;simp only[iB,h0.1,cond_false,List.cons_append,ih h0.2]
  rw[e,aXp hn.2]
  ·simp
  ·intro q hq;rw[List.any_append,hl q (List.mem_cons_of_mem _ hq)];have:=hn.1;simp only[aSt,List.all_eq_true,Bool.not_eq_true'] at this
   simp[this _ (List.mem_map.2 ⟨q,hq,rfl⟩)]
theorem bMh{ρ:Rho}{h:Nat}{m m':VO}{l:List (Nat×VO)}(hm:ob l h=some m):((iB h m' l).map λp=>ρ.mo p.1 p.2).Perm (ρ.mo h m'::(iA h l).map λp=>ρ.mo p.1 p.2):=by
 induction l with
 |nil=>cases hm
 | cons p l ih=>
  simp only[ob] at hm;simp only[iB,iA];cases hb:Nat.beq p.1 h with
  |true=>have:=Nat.eq_of_beq_eq_true hb;subst this;exact .refl _
  | false=>
   rw[hb] at hm;simp only[cond_false,List.map_cons];exact(List.Perm.cons _ (ih (by simpa using hm))).trans (.swap _ _ _)
section
variable{P:Program}{n d:Nat}{S:VS}{ty:TypeId}{pos:String}{af:Array Edge}{gd:Option (Nat×Bool)}{K:Eff->Prop}{c:Callee}{l:List Operand}{ts:Array TypeId}{f:FuncId}{ars:List AV}
theorem bUl[Mode]{hb:Nat}{ds ds':List D}{sl ns:List (Nat×VO)}{r:AV}(he:∀args w,(callFunc f args).run P w=.ok (.enter f args) w)(hd:d<n)(hc:rC S l c=some (f,ars))(hok:iE l=true)
  (hm:ob S.objs hb=some (.box ds))(hsl:∀p∈sl,ob S.objs p.1=some p.2)(hnd:(aFk (hb::sl.map (·.1))&&aFk (ns.map (·.1)))=true)(hr:okA r=true)
  (hf:∀ρ:Rho,∃Qc,bI P f (ars.map ρ.av) (ρ.mo hb (.box ds)::sl.map λp=>ρ.mo p.1 p.2) Qc/\∀r' o',Qc r' o'->∃ws,r'=r/\o'=(((hb,.box ds')::ns).map λp=>(ρ.setL (ns.map (·.1)) ws).mo p.1 p.2))
  (k:K ⟨r,sl.map (λp=>(p.1,none))++(hb,some (.box ds'))::ns.map (λp=>(p.1,some p.2)),hb::sl.map (·.1),ns.map (·.1)⟩):
  cS P n ⟨some d,.call ⟨c,l.toArray,ts⟩,ty,pos,af,gd⟩ S K:=by
 refine⟨⟨_,k,λS' hA hn ρ=>?_⟩⟩;simp only[aFk,Bool.and_eq_true] at hnd;obtain⟨⟨n1,n2⟩,n3⟩:=hnd;obtain⟨a0,h1,h2⟩:=aEc hA hc he ρ;obtain⟨Qc,hcall,hpost⟩:=hf ρ;have hob:ob S'.objs hb=some (.box ds):=(hA.ob hb (by simp)).trans hm;have hos:∀p∈sl,ob S'.objs p.1=some p.2:=λp hp=>(hA.ob p.1 (by simp;exact .inr ⟨p.2,hp⟩)).trans (hsl p hp);have hp1:=aXv (ρ:=ρ) n2 hos;have hobL:ob (qC (sl.map (·.1)) S'.objs) hb=some (.box ds):=(bCm n1).trans hob;obtain⟨i,_,_,hp2⟩:=zK (ρ:=ρ) hobL;have hperm:(S'.at ρ).objs.Perm ((ρ.mo hb (.box ds)::sl.map λp=>ρ.mo p.1 p.2)++(iA hb (qC (sl.map (·.1)) S'.objs)).map λp=>ρ.mo p.1 p.2):=by
  refine hp1.trans ?_;refine(List.Perm.append_left _ hp2).trans ?_;exact List.perm_middle
 intro A M w0 a w hR K' Q hK;have hR1:R A M w0 n ⟨(S'.at ρ).env,(ρ.mo hb (.box ds)::sl.map λp=>ρ.mo p.1 p.2)++(iA hb (qC (sl.map (·.1)) S'.objs)).map λp=>ρ.mo p.1 p.2⟩ a w:=yM (env:=(S'.at ρ).env) hperm A M w0 n a w hR;have h1':kL P ⟨(S'.at ρ).env,(ρ.mo hb (.box ds)::sl.map λp=>ρ.mo p.1 p.2)++(iA hb (qC (sl.map (·.1)) S'.objs)).map λp=>ρ.mo p.1 p.2⟩ c l f a0:=bEc h1 rfl;refine gM hd rfl h1' h2 hok hcall A M w0 a w hR1 K' Q λs a' w' hs hR'=>?_;obtain⟨r',o',hq,rfl⟩:=hs;obtain⟨ws,rfl,rfl⟩:=hpost r' o' hq;refine hK _ a' w' ⟨ρ.setL (ns.map (·.1)) ws,bJl,?_⟩ hR';have hfr:∀h∈ns.map (·.1),kZ h S'=false:=λh hh=>(hn h hh).1;have hat:=bCz (ρ:=ρ) (vs:=ws) hfr
 generalize ρ.setL (ns.map (·.1)) ws=ρ1 at hat
 have edel:(sl.map λp=>(p.1,(none:Option VO)))=(sl.map (·.1)).map λh=>(h,none):=by simp
 simp only[VS.app];rw[edel,aXo];simp only[chg];have hkeys:∀p∈ns,(iB hb (.box ds') (qC (sl.map (·.1)) S'.objs)).any (λq=>Nat.beq q.1 p.1)=false:=λp hp=>by
  have h0:=aAh (hfr p.1 (List.mem_map.2 ⟨p,hp,rfl⟩));have h3:=aXt (hs:=sl.map (·.1)) h0;have hne:Nat.beq hb p.1=false:=by
   cases hbb:Nat.beq hb p.1 with
   |false=>rfl
   | true=>
    have:=Nat.eq_of_beq_eq_true hbb;subst this;have:∀{l:List (Nat×VO)},ob l p.1=some (.box ds)->l.any (λp'=>Nat.beq p'.1 p.1||uN p.1 p'.2)=false->False:=by
     intro l
     induction l with
     |nil=>intro h _;cases h
     | cons q l ih=>
      intro h h';simp only[List.any_cons,Bool.or_eq_false_iff] at h';simp only[ob,h'.1.1,cond_false] at h;exact ih h h'.2
    exact(this hob h0).elim
  clear h0
  generalize qC (sl.map (·.1)) S'.objs=L at h3
  induction L with
  |nil=>simp[iB,hne]
  | cons q L ih=>
   simp only[List.any_cons,Bool.or_eq_false_iff] at h3;simp only[iB];cases Nat.beq q.1 hb with
   | true=>
    simp only[cond_true,List.any_cons,Bool.or_eq_false_iff];refine⟨h3.1.1,?_⟩;have:=h3.2;rw[List.any_eq_false] at this|-;intro x hx hxx;exact this x hx (by simp only[hxx,Bool.true_or])
   |false=>simp only[cond_false,List.any_cons,Bool.or_eq_false_iff];exact⟨h3.1.1,ih h3.2⟩
 rw[aXp n3 hkeys];have henv:(λk=>ρ1.av (lk ((d,r')::S'.env) k))=upd (S'.at ρ).env d r':=by
  have e:=wN (ρ:=ρ1) S' d r';rw[aRc ρ1 hr,hat] at e;exact(congrArg St.env e).symm
 have hmo:∀p∈iA hb (qC (sl.map (·.1)) S'.objs),True:=λ_ _=>trivial;have hrest:((iA hb (qC (sl.map (·.1)) S'.objs)).map λp=>ρ.mo p.1 p.2)=(iA hb (qC (sl.map (·.1)) S'.objs)).map λp=>ρ1.mo p.1 p.2:=by
  have hall:∀p∈S'.objs,ρ1.mo p.1 p.2=ρ.mo p.1 p.2:=λp hp=>by
   have e:=congrArg St.objs hat;simp only[VS.at] at e;exact(List.map_inj_left.1 e) p hp
  have hsub:∀(h:Nat) (l:List (Nat×VO)),∀x∈iA h l,x∈l:=by
   intro h l
   induction l with
   |nil=>intro x hx;exact hx
   | cons q l ih=>
    intro x hx;simp only[iA] at hx;cases hb':Nat.beq q.1 h with
    |true=>rw[hb'] at hx;exact List.mem_cons_of_mem _ hx
    | false=>
     rw[hb'] at hx
     rcases List.mem_cons.1 hx with rfl|hx
     ·exact List.mem_cons_self
     ·exact List.mem_cons_of_mem _ (ih x hx)
  have hsubL:∀(hs:List Nat) (l:List (Nat×VO)),∀x∈qC hs l,x∈l:=by
   intro hs
   induction hs with
   |nil=>intro l x hx;exact hx
   |cons h hs ih=>intro l x hx;exact hsub h l x (ih _ x hx)
  exact List.map_congr_left λp hp=>(hall p (hsubL _ _ p (hsub _ _ p hp))).symm
 unfold VS.at;simp only;rw[henv,hrest];refine yM ?_;have hq1:=bMh (ρ:=ρ1) (m':=.box ds') hobL;rw[List.map_append];refine List.Perm.trans ?_ (List.Perm.append_right _ hq1).symm;simp only[List.map_cons,List.cons_append];exact .cons _ List.perm_append_comm
theorem cbx[Mode]{α γ:Type}{sh:Option α}{g:α->Option γ}{rr:γ}{enc:α->AV}(hb:Nat)(sl:List (Nat×VO))(ds':α->List D)(ns:α->List (Nat×VO)){ds:List D}{args':Rho->List AV}{objs':Rho->List MO}(he:∀args w,(callFunc f args).run P w=.ok (.enter f args) w)
  (hf:∀x,sh=some x->∀ρ:Rho,∃Qc,bI P f (args' ρ) (objs' ρ) Qc/\∀r' o',Qc r' o'->∃ws,r'=enc x/\o'=(((hb,.box (ds' x))::ns x).map λp=>(ρ.setL ((ns x).map (·.1)) ws).mo p.1 p.2))
  (h:sh.bind g=some rr)(k:∀x,g x=some rr->K ⟨enc x,sl.map (λp=>(p.1,none))++(hb,some (.box (ds' x)))::(ns x).map (λp=>(p.1,some p.2)),hb::sl.map (·.1),(ns x).map (·.1)⟩)
  (hc:rC S l c=some (f,ars):=by exact rfl)(hm:ob S.objs hb=some (.box ds):=by exact rfl)(hsl:(sl.map λp=>ob S.objs p.1)=sl.map (λp=>some p.2):=by exact rfl)
  (hok:(Nat.ble (d+1) n&&(iE l&&aFk (hb::sl.map (·.1))))=true:=by exact rfl)(hn2:∀x,aFk ((ns x).map (·.1))=true:=by exactλ_=>rfl)(hr:∀x,okA (enc x)=true:=by exactλ_=>rfl)
  (ha:∀ρ:Rho,args' ρ=ars.map ρ.av:=by exactλ_=>rfl)(ho:∀ρ:Rho,objs' ρ=ρ.mo hb (.box ds)::sl.map λp=>ρ.mo p.1 p.2:=by intro _;kernel_rfl):
  cS P n ⟨some d,.call ⟨c,l.toArray,ts⟩,ty,pos,af,gd⟩ S K:=by
 obtain⟨x,hx,h⟩:=bind_some h;simp only[Bool.and_eq_true] at hok;refine bUl he (Nat.le_of_ble_eq_true hok.1) hc hok.2.1 hm (λp hp=>?_) (by rw[hok.2.2,hn2 x];rfl) (hr x) (λρ=>?_) (k x h)
 ·exact List.map_inj_left.1 hsl p hp
 ·rw[<-ha ρ,<-ho ρ];exact hf x hx ρ
theorem cow[Mode]{α γ:Type}{sh:Option α}{g:α->Option γ}{rr:γ}{e kk:Nat}{rows:α->List (List D)}{args':List AV}(he:∀args w,(callFunc f args).run P w=.ok (.enter f args) w)
  (hf:∀x,sh=some x->bI P f args' [] (λr' o'=>∃w,r'=.d (.lit w)/\o'=[.arr w e kk (rows x)]))(h:sh.bind g=some rr)
  (k:∀x,g x=some rr->bEq (ars.flatMap (aNc S.objs)) λus=>K ⟨.d (.hv 0 d 0),[(d,some (.arr e kk (rows x)))],us,[d]⟩)(hp:∀x,dH (rows x).flatten=true:=by exactλx=>aEi (λ_=>rfl) x)
  (hc:rC S l c=some (f,ars):=by exact rfl)(hv:nlL (ars.map (vA S.objs)) args'=args':=by exact rfl)(hok:(Nat.ble (d+1) n&&(iE l&&args'.all okA))=true:=by exact rfl):
  cS P n ⟨some d,.call ⟨c,l.toArray,ts⟩,ty,pos,af,gd⟩ S K:=by
 obtain⟨x,hx,h⟩:=bind_some h;simp only[Bool.and_eq_true] at hok;refine⟨⟨_,aYx (K:=λus=>K ⟨.d (.hv 0 d 0),[(d,some (.arr e kk (rows x)))],us,[d]⟩) (k x h),aMu λS' hA ρ=>bDi λhro=>?_⟩⟩;obtain⟨a0,h1,h2⟩:=aEc hA hc he ρ;refine bBl (Nat.le_of_ble_eq_true hok.1) h1 h2 hok.2.1 ?_ (hf x hx) (hp x);have hro':rQ (S'.objs.map λp=>ρ.mo p.1 p.2):=hro;have hok2:=hok.2.2;rw[<-hv] at hok2|-;exact aMm (λx hx ha=>aEz ρ hro' (bAn λk hk=>hA.ob k (aVr hx hk)) ha) hok2
end
end Go.Am
