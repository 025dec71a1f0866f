/- Several texts, one behind the other. -/
import Derived.Test.YtdebnakalmnnpaaGreatDoorAmEnt
import Derived.Test.YtdebnakalmnnpaaGreatDoorAmVal
import Derived.Lib.ItoaNum
import Derived.Lib.Join
import Derived.Lib.LaidTab
import Derived.Lib.AppendIntMem
import Derived.Lib.Split
import Derived.Lib.SplitLaws
import Derived.Lib.IndexMore
import Derived.Lib.ConvBytes
import Derived.Laws.BytesArg
section
namespace Go.Am
theorem ad0:∀i,i<([]:List AV).length->AD (([]:List AV).getD i .any) (([]:List D).getD i (.lit undef)):=λ_ h=>by simp at h
theorem ad1{x:AV}{d:D}(h:AD x d):∀i,i<[x].length->AD ([x].getD i .any) ([d].getD i (.lit undef))
 |0,_=>h
theorem ad2{x y:AV}{d e:D}(h:AD x d)(h':AD y e):∀i,i<[x,y].length->AD ([x,y].getD i .any) ([d,e].getD i (.lit undef))
 |0,_=>h
 |1,_=>h'
theorem aGa{fs:List MO}{m:Bool}{f:FuncId}{x y:D}(h:DV fs x y):DV fs (.fc m f [x]) (.fc m f [y]):=
 .fc m f _ _ rfl λj hj=>match j,hj with|0,_=>h
theorem aYh{fs:List MO}{m:Bool}{f:FuncId}{x y z u:D}(h:DV fs x y)(h':DV fs z u):DV fs (.fc m f [x,z]) (.fc m f [y,u]):=
 .fc m f _ _ rfl λj hj=>match j,hj with|0,_=>h|1,_=>h'
theorem aCb{fs:List MO}{b o:Nat}{x y:D}(i:Nat)(ho:fs[i]?=some (.box b o [x]))(h:DV fs x y):DV fs (.lit (.pointer (some ⟨b,o,none⟩))) (.pt [y]):=
 .box b o [x] [y] (List.mem_of_getElem? ho) rfl λj hj=>match j,hj with|0,_=>h
theorem aYi{fs:List MO}{x y:D}(h:DV fs x y):DV fs (.pt [x]) (.pt [y]):=.ptc _ _ rfl λj hj=>match j,hj with|0,_=>h
theorem bRu(a b:Str):((⟨a.toArray⟩:ByteArray)==⟨b.toArray⟩)=decide (a=b):=by
 rw[show((⟨a.toArray⟩:ByteArray)==⟨b.toArray⟩)=(a.toArray==b.toArray) from rfl]
 by_cases h:a=b<;>simp[h]
theorem aUu(a:Str):∀(l:List Str) (ms:List MapEntry) (i:Nat),ms.map (·.key)=l.map sv->
  Instr.findNow .string (sv a) ms i=some ((eW a l).bind λj=>(ms[j]?).map λe=>(i+j,e.val))
 |[],[],_,_=>by simp[Instr.findNow,eW]
 | b::l,m::ms,i,h=>by
  simp only[List.map_cons,List.cons.injEq] at h;have ih:=aUu a l ms (i+1) h.2;simp only[Instr.findNow,h.1,sv,Instr.sameNow,eW,bRu]
  by_cases hab:a=b
  ·simp[hab]
  ·simp only[hab,decide_false,cond_false];rw[show Value.string ⟨a.toArray⟩=sv a from rfl,ih];cases eW a l with
   |none=>rfl
   |some j=>simp[Nat.add_assoc,Nat.add_comm 1 j]
 |[],_::_,_,h=>by simp at h
 |_::_,[],_,h=>by simp at h
theorem bDs{P:Program}{kt:TypeId}(hu:P.underlying kt=some .string):mX P kt sv where
 chk b a w:=by
  rw[show(10000:Nat)=9999+1 from rfl]
  generalize(9999:Nat)=m
  simp only[Instr.checkKey,Sem.run_bind,run_underlying hu,Result.andThen_ok]
  rfl
 find a l ms w h:=by simp[Instr.findKey,run_underlying hu,aUu a l ms 0 h]
 stays a w:=by simp[Instr.keyThatStays,Instr.sameBits,sv,bRu]
 inj a b h:=by
  simp only[sv,Value.string.injEq] at h;have:=congrArg (λx=>x.data.toList) h
  simpa using this
theorem bXr[Mode]{P:Program}{n:Nat}{st:St}{t kt et:TypeId}{α β:Type}[DecidableEq α]{kv:α->Value}{av:β->AV}{l:List (α×β)}{v:β}{a:α}{x y q:Operand}{r m:Nat}{bs:List Nat}{clock:Nat}{ty:TypeId}{pos:String}{af:Array Edge}{gd:Option (Nat×Bool)}
  (hk:mX P kt kv)(ht:P.underlying t=some (.map kt et))
  (hx:st.eval x=.d (.lit (.map (some r))))(ho:st.objs[m]?=some (.map r (l.map λp=>(kv p.1,av p.2)) bs clock))(hyk:cD y=true){yv:AV}(hyv:st.eval y=yv)(hy:uB kv yv a)(hqk:cD q=true)(hq:st.eval q=av v):
  aM P n ⟨none,.insert t x y q,ty,pos,af,gd⟩ st ⟨st.env,st.objs.set m (.map r ((eM a v l).map λp=>(kv p.1,av p.2)) (mbs a l bs clock) (mck a l clock))⟩:=by
 intro A M w0 ac w hR K Q hK;have:=aAn (n:=n) (ty:=ty) (pos:=pos) (af:=af) (gd:=gd) hk ht hx ho hyk hyv hy hqk hq A M w0 ac w hR K Q hK;unfold Oper.wp at this|-;exact this
section
variable{P:Program}{n:Nat}{st:St}{Q:Exit->St->Prop}{α β:Type}[DecidableEq α]
theorem bIi{a:α}{v:β}:∀{l:List (α×β)},(∀p∈l,p.1≠a)->eM a v l=l++[(a,v)]
 |[],_=>rfl
 | (b,u)::l,h=>by
  have h1:¬a=b:=λe=>h (b,u) (by simp) e.symm;simp only[eM,h1,decide_false,cond_false,List.cons_append,bIi λp hp=>h p (List.mem_cons_of_mem _ hp)]
theorem bHi{γ:Type}{S:Nat->Bool}{i:Nat}{ins:List (Nat×γ)}(h:∀p∈ins,p.1≠i):ins.filter (λp=>Nat.beq p.1 i||S p.1)=ins.filter λp=>S p.1:=
 List.filter_congr λp hp=>by
  have:Nat.beq p.1 i=false:=by
   cases hb:Nat.beq p.1 i with
   |false=>rfl
   |true=>exact absurd (Nat.eq_of_beq_eq_true hb) (h p hp)
  simp[this]
theorem bMp{γ:Type}{S:Nat->Bool}{i:Nat}{x:γ}(hS:S i=false):∀{ins:List (Nat×γ)},(ins.map (·.1)).Nodup->(i,x)∈ins->(ins.filter λp=>Nat.beq p.1 i||S p.1).Perm ((i,x)::ins.filter λp=>S p.1)
 |[],_,h=>by simp at h
 | p ::ins,hn,h=>by
  simp only[List.map_cons,List.nodup_cons,List.mem_map,not_exists,not_and] at hn
  rcases List.mem_cons.1 h with rfl|h
  ·have:ins.filter (λp=>Nat.beq p.1 i||S p.1)=ins.filter λp=>S p.1:=bHi λp hp e=>hn.1 p hp e;simp only[List.filter_cons,Nat.beq_refl,hS,this]
   simp
  ·have ih:=bMp (x:=x) hS hn.2 h;have hne:Nat.beq p.1 i=false:=by
    cases hb:Nat.beq p.1 i with
    |false=>rfl
    |true=>exact absurd (Nat.eq_of_beq_eq_true hb).symm (hn.1 (i,x) h)
   simp only[List.filter_cons,hne,Bool.false_or];cases S p.1 with
   |true=>exact(List.Perm.cons _ ih).trans (.swap _ _ _)
   |false=>exact ih
def MOp[Mode](P:Program)(n:Nat)(ops:Array Oper)(tab:Nat->Tab)(base:Nat->AV)(f:α×β->Value×AV)(ins:List (Nat×α×β))(o:Oper)(i:Nat)(yn:List Nat×List Nat):Prop:=
 (∀(S:Nat->Bool) (r:Nat) (objs:List MO),Knows S yn.1 yn.2->∃d v,find (tab r) d=some (i,v)/\GStep P n ops o ⟨ov (tab r) S base,objs⟩ ⟨upd (ov (tab r) S base) d v,objs⟩)/\(ins.all λp=>!Nat.beq p.1 i)=true\/
 ∃ a v,(i,a,v)∈ins/\aV 0 yn.1=true/\o.guard=none/\∀(S:Nat->Bool) (r:Nat) (objs:List MO) (m:Nat) (l:List (α×β)) (bs:List Nat) (ck:Nat),Knows S yn.1 yn.2->objs[m]?=some (.map r (l.map f) bs ck)->
  aM P n o ⟨ov (tab r) S base,objs⟩ ⟨ov (tab r) S base,objs.set m (.map r ((eM a v l).map f) (mbs a l bs ck) (mck a l ck))⟩
def AllM[Mode](P:Program)(n:Nat)(ops:Array Oper)(tab:Nat->Tab)(base:Nat->AV)(f:α×β->Value×AV)(ins:List (Nat×α×β)):List Oper->List (List Nat×List Nat)->Nat->Prop
 |[],_,_=>True
 |o::l,yn,i=>MOp P n ops tab base f ins o i (yn.headD ([],[]))/\AllM P n ops tab base f ins l yn.tail (i+1)
theorem AllM.get[Mode]{ops:Array Oper}{tab:Nat->Tab}{base:Nat->AV}{f:α×β->Value×AV}{ins:List (Nat×α×β)}:∀{l:List Oper} {yn:List (List Nat×List Nat)} {k:Nat},AllM P n ops tab base f ins l yn k->∀{i:Nat} {o:Oper},l[i]?=some o->
  MOp P n ops tab base f ins o (k+i) (yn.getD i ([],[]))
 |[],_,_,_,i,o,h=>by simp at h
 | _::_,yn,k,h,0,o,ho=>by
  simp at ho;subst ho
  have:=h.1;cases yn<;>simpa using this
 | _::l,yn,k,h,i+1,o,ho=>by
  have:=h.2.get (i:=i) (by simpa using ho);rw[show k+1+i=k+(i+1) by omega] at this;cases yn with
  |nil=>simpa using this
  |cons y yn=>simpa using this
theorem bYc[Mode]{id:Nat}{l rest:List Oper}{o0:Oper}(hl:l=o0::rest)(m dm:Nat)(tab0:Tab)(f:α×β->Value×AV)(ins:List (Nat×α×β))(hm:P.follows .mixedOrders=true)(hb:zX l=true)(hbe:wL (cL l l.length) m l.length=true)
  (hml:Nat.ble m l.length=true)(hown:∀r,lX ((dm,0,.d (.lit (.map (some r))))::tab0)=true)(htab:((dm,0,AV.any)::tab0).all (λx=>Nat.blt x.2.1 m)=true)(hi1:(ins.map (·.1)).Nodup)(hi2:(ins.map (·.2.1)).Nodup)(hi3:(ins.all λp=>Nat.blt p.1 m&&!Nat.beq p.1 0)=true)
  (hti:(tab0.all λx=>ins.all λp=>!Nat.beq x.2.1 p.1)=true)(hg0:o0.guard=none)(h0:∀(s:St),Step P n o0 s (λs'=>∃r,s'=⟨upd s.env dm (.d (.lit (.map (some r)))),s.objs++[.map r [] [] 0]⟩))
  (yn:List (List Nat×List Nat))(hyn:aPt (cL l l.length) m yn=true)(hsteps:AllM P n l.toArray (λr=>(dm,0,.d (.lit (.map (some r))))::tab0) st.env f ins ((l.take m).drop 1) (yn.drop 1) 1)
  (htail:∀r (es:List (α×β)) bs ck,es.Perm (ins.map (·.2))->TrL P n l.toArray (l.drop m) ⟨ov ((dm,0,.d (.lit (.map (some r))))::tab0) (λ_=>true) st.env,st.objs++[.map r (es.map f) bs ck]⟩ Q):
  Tr P n (.region id l.toArray true) st Q:=by
 have hm0:0<m:=by
  simp only[List.all_cons,Bool.and_eq_true] at htab;exact aC htab.1
 have hcov:∀(r:Nat) (S S':Nat->Bool),(∀j,j<m->S' j=S j)->ov ((dm,0,.d (.lit (.map (some r))))::tab0) S' st.env=ov ((dm,0,.d (.lit (.map (some r))))::tab0) S st.env:=by
  intro r S S' hS
  funext k
  unfold ov;cases hf:find ((dm,0,.d (.lit (.map (some r))))::tab0) k with
  |none=>rfl
  | some p=>
   obtain⟨j,v⟩:=p;have hjm:j<m:=by
    have hmem:=aBk hf;simp only[List.all_cons,Bool.and_eq_true] at htab
    rcases List.mem_cons.1 hmem with h|h
    ·cases h;exact hm0
    ·exact aC (List.all_eq_true.1 htab.2 _ h)
   simp[hS j hjm]
 refine aPm m (λS st'=>∃r,st'.env=ov ((dm,0,.d (.lit (.map (some r))))::tab0) S st.env/\((S 0=false/\st'.objs=st.objs/\∀p∈ins,S p.1=false)\/(S 0=true/\∃(es:List (α×β)) (bs:List Nat) (ck:Nat),st'.objs=st.objs++[.map r (es.map f) bs ck]/\es.Perm ((ins.filter λp=>S p.1).map (·.2)))))
  hm hb hbe hml yn hyn ?_ ?_ ?_ ?_
 ·refine⟨0,?_,.inl ⟨rfl,rfl,λ_ _=>rfl⟩⟩
  funext k
  unfold ov;cases hf:find ((dm,0,.d (.lit (.map (some 0))))::tab0) k with
  |none=>rfl
  |some p=>rfl
 ·rintro S S' st' hS ⟨r,he,ho⟩;have hin:∀p∈ins,S' p.1=S p.1:=λp hp=>hS _ (by
   have:=List.all_eq_true.1 hi3 p hp;simp only[Bool.and_eq_true] at this;exact aC this.1)
  refine⟨r,by rw[he,hcov r S S' hS],?_⟩;rw[hS 0 hm0];refine ho.imp (λh=>⟨h.1,h.2.1,λp hp=>by rw[hin p hp];exact h.2.2 p hp⟩) λh=>⟨h.1,?_⟩;obtain⟨es,bs,ck,h1,h2⟩:=h.2;exact⟨es,bs,ck,h1,by rwa[List.filter_congr λp hp=>hin p hp]⟩
 ·rintro i o hoi S st' ⟨r,he,ho⟩ hSi hk;cases i with
  | zero=>
   have:o=o0:=by
    subst hl;cases m with
    |zero=>omega
    |succ m=>simp at hoi;exact hoi.symm
   subst this;refine .inl ⟨λ_ _ _ _ _ _=>by simp[Region.wanted,hg0],λA M w0 a w hR K Q' hK=>h0 st' A M w0 a w hR K Q' ?_⟩;rintro s a' w' ⟨r',rfl⟩ hR'
   rcases ho with⟨_,ho,hno⟩|⟨h1,_⟩
   ·refine hK _ a' w' ⟨_,⟨r',?_,.inr ⟨rfl,[],[],0,by rw[ho];rfl,?_⟩⟩,Ent.refl _⟩ hR'
    ·show upd st'.env dm _=_;rw[he]
     funext k
     rw[aIh (d:=dm) (v:=.d (.lit (.map (some r')))) (hown r') (by simp[find]) k]
     by_cases hk':dm=k
     ·subst hk';rw[fK,fK]
     ·rw[lJ _ _ hk',lJ _ _ hk'];have hb':Nat.beq dm k=false:=by
       cases hb':Nat.beq dm k with
       |false=>rfl
       |true=>exact absurd (Nat.eq_of_beq_eq_true hb') hk'
      simp[ov,find,hb']
    ·have:(ins.filter λp=>Nat.beq p.1 0||S p.1)=[]:=List.filter_eq_nil_iff.2 λp hp=>by
      have h3:=List.all_eq_true.1 hi3 p hp;simp only[Bool.and_eq_true,Bool.not_eq_true'] at h3
      simp[h3.2,hno p hp]
     rw[this];exact .refl _
   ·rw[hSi] at h1;cases h1
  | succ i=>
   have hoi':((l.take m).drop 1)[i]?=some o:=by rw[List.getElem?_drop,Nat.add_comm];exact hoi
   have hop:=hsteps.get hoi';rw[Nat.add_comm 1 i] at hop;have hyd:(yn.drop 1).getD i ([],[])=yn.getD (i+1) ([],[]):=by simp[List.getD,List.getElem?_drop,Nat.add_comm]
   rw[hyd] at hop;have h00:(Nat.beq 0 (i+1)||S 0)=S 0:=by rw[show Nat.beq 0 (i+1)=false from rfl,Bool.false_or]
   obtain⟨env',objs'⟩:=st';simp only at he ho;subst he
   rcases hop with⟨hp,hni⟩|⟨a,v,hin,h0y,hg,hst⟩
   ·obtain⟨d,v,hf,hg⟩:=hp S r objs' hk;have hni':∀p∈ins,p.1≠i+1:=λp hp e=>by
     have:=List.all_eq_true.1 hni p hp;rw[e,Nat.beq_refl] at this;cases this
    refine hg.toP ⟨_,⟨r,funext λk=>(aIh (hown r) hf k).symm,?_⟩,Ent.refl _⟩;refine Or.imp (λ(h:S 0=false/\_/\_)=>⟨h00.trans h.1,h.2⟩) (λ(h:S 0=true/\_)=>⟨h00.trans h.1,h.2⟩) (?_:(S 0=false/\_/\_)\/(S 0=true/\_));refine ho.imp (λh=>⟨h.1,h.2.1,λp hp=>?_⟩) λh=>⟨h.1,?_⟩
    ·have:Nat.beq p.1 (i+1)=false:=by
      cases hb:Nat.beq p.1 (i+1) with
      |false=>rfl
      |true=>exact absurd (Nat.eq_of_beq_eq_true hb) (hni' p hp)
     simp[this,h.2.2 p hp]
    ·obtain⟨es,bs,ck,h1,h2⟩:=h.2;exact⟨es,bs,ck,h1,by rwa[bHi hni']⟩
   ·have hS0:S 0=true:=hk.y 0 h0y
    rcases ho with⟨h1,_⟩|⟨_,es,bs,ck,rfl,hper⟩
    ·rw[hS0] at h1;cases h1
    have hmi:(st.objs++[MO.map r (es.map f) bs ck])[st.objs.length]?=some (.map r (es.map f) bs ck):=by simp
    have hstep:=hst S r _ st.objs.length es bs ck hk hmi;have hset:(st.objs++[MO.map r (es.map f) bs ck]).set st.objs.length (.map r ((eM a v es).map f) (mbs a es bs ck) (mck a es ck))=st.objs++[.map r ((eM a v es).map f) (mbs a es bs ck) (mck a es ck)]:=by
     rw[List.set_append_right _ _ (Nat.le_refl _)];simp
    rw [hset] at hstep;have hnew:∀p∈es,p.1≠a:=by
     intro p hp e;have hmem:=hper.mem_iff.1 hp;obtain⟨q,hq,rfl⟩:=List.mem_map.1 hmem;obtain⟨hq1,hq2⟩:=List.mem_filter.1 hq;have:q=(i+1,a,v):=by
      have hinj:∀{ps:List (Nat×α×β)},(ps.map (·.2.1)).Nodup->∀{x y},x∈ps->y∈ps->x.2.1=y.2.1->x=y:=by
       intro ps
       induction ps with
       |nil=>intro _ x y hx;simp at hx
       | cons p ps ih=>
        intro hn x y hx hy e;simp only[List.map_cons,List.nodup_cons,List.mem_map,not_exists,not_and] at hn
        rcases List.mem_cons.1 hx with hx|hx<;>rcases List.mem_cons.1 hy with hy|hy
        ·exact hx.trans hy.symm
        ·exact absurd (by rw[<-e,hx]) (hn.1 y hy)
        ·exact absurd (by rw[e,hy]) (hn.1 x hx)
        ·exact ih hn.2 hx hy e
      exact hinj hi2 hq1 hin e
     subst this;rw[hSi] at hq2;cases hq2
    refine .inl ⟨λ_ _ _ _ _ _=>by simp[Region.wanted,hg],λA M w0 a' w hR K Q' hK=>hstep A M w0 a' w hR K Q' ?_⟩;rintro s a2 w2 rfl hR2;refine hK _ a2 w2 ⟨_,⟨r,?_,.inr ⟨h00.trans hS0,eM a v es,mbs a es bs ck,mck a es ck,rfl,?_⟩⟩,Ent.refl _⟩ hR2
    ·funext k
     show ov ((dm,0,.d (.lit (.map (some r))))::tab0) S st.env k=_;unfold ov;cases hf:find ((dm,0,.d (.lit (.map (some r))))::tab0) k with
     |none=>rfl
     | some p=>
      obtain⟨j,v'⟩:=p;have hji:Nat.beq j (i+1)=false:=by
       rcases List.mem_cons.1 (aBk hf) with h|h
       ·cases h;rfl
       ·have:=List.all_eq_true.1 (List.all_eq_true.1 hti _ h) _ hin
        simpa using this
      simp[hji]
    ·rw[bIi hnew];have h5:=(bMp hSi hi1 hin).map (·.2);refine List.Perm.trans ?_ h5.symm;simp only[List.map_cons];exact(List.perm_append_comm).trans (.cons _ hper)
 ·rintro⟨env',objs'⟩ ⟨r,he,ho⟩;simp only at he ho;subst he
  rcases ho with⟨h1,_⟩|⟨_,es,bs,ck,rfl,hper⟩
  ·cases h1
  ·refine htail r es bs ck ?_
   rwa[List.filter_eq_self.2 λ_ _=>rfl] at hper
end
theorem bTj{α β:Type}[DecidableEq α](a:α)(z:β){l l':List (α×β)}(h:l.Perm l'):(l.map (·.1)).Nodup->cE a z l=cE a z l'/\cI a l=cI a l':=by
 induction h with
 |nil=>exactλ_=>⟨rfl,rfl⟩
 | cons p _ ih=>
  intro hn;obtain⟨b,v⟩:=p;simp only[List.map_cons,List.nodup_cons] at hn;obtain⟨h1,h2⟩:=ih hn.2;simp only[cE,cI,h1,h2,and_self]
 | swap p q l=>
  intro hn;obtain⟨b,v⟩:=p;obtain⟨c,u⟩:=q;simp only[List.map_cons,List.nodup_cons,List.mem_cons,not_or] at hn;have hne:¬c=b:=hn.1.1;simp only[cE,cI]
  by_cases h1:a=b
  ·subst h1;have h2:¬a=c:=λe=>hne e.symm
   simp[h2,hne]
  ·by_cases h2:a=c<;>simp[h1,h2,hne]
 | trans h1 _ ih1 ih2=>
  intro hn;obtain⟨a1,a2⟩:=ih1 hn;obtain⟨b1,b2⟩:=ih2 ((h1.map _).nodup_iff.1 hn);exact⟨a1.trans b1,a2.trans b2⟩
def D.isFc:D->Bool
 | .fc .. =>true
 |_=>false
def D.fid:D->FuncId
 | .fc _ f _=>f
 |_=>0
def D.fargs(x:D)(args:List AV):List AV:=match x with
 | .fc m _ xs=>bif m then xs.map .d++args else args++xs.map .d
 |_=>args
structure aFw[Mode](P:Program)(x:D)(args:List AV)(objs:List MO)(Q:AV->List MO->Prop):Prop where
 f:x.isFc=true
 e:∀args w,(callFunc x.fid args).run P w=.ok (.enter x.fid args) w
 c:bC P x.fid (x.fargs args) objs Q
theorem aQq[Mode]{P:Program}{f:FuncId}{args args':List AV}{objs:List MO}{Q:AV->List MO->Prop}(hb:BVs [] args args')(h:bC P f args' objs Q):bC P f args objs Q:=
 λA w vs h1 h2 h3=>h A w vs h1 h2 (hb.sound (λm hm=>by simp at hm) (λ_ _ h=>h) (λm hm=>by simp at hm) h3)
section
variable{P:Program}{n d:Nat}{st:St}
theorem bCn[Mode]{t:Nat}{x:D}{l:List Operand}{args:List AV}{Q:AV->List MO->Prop}{passed rest:List MO}{ts:Array TypeId}{ty:TypeId}{pos:String}{af:Array Edge}{gd:Option (Nat×Bool)}(hd:d<n)
  (ht:st.env t=.d x)(ho:st.objs=passed++rest)(ha:st.evals l=args)(hok:iN l=true)(h:aFw P x args passed Q):
  Step P n ⟨some d,.call {callee:=.value (.tmp t),args:=l.toArray,argTypes:=ts},ty,pos,af,gd⟩ st (λs=>∃r objs',Q r objs'/\s=⟨upd st.env d r,objs'++rest⟩):=by
 cases x with
 |fc m f xs=>exact xI hd ho (.fc t f m xs l h.e ht) (by subst ha;rfl) hok h.c
 |_=>exact absurd h.f (by simp[D.isFc])
theorem bUl[Mode]{t kt et:TypeId}{es E:List (Str×List D)}{z g:List D}{b:Bool}{zv:Value}{a:Str}{x y:Operand}{ty:TypeId}{pos:String}{af:Array Edge}{gd:Option (Nat×Bool)}(hd:d<n)
  (hk:mX P kt sv)(ht:P.underlying t=some (.map kt et))(hz:∀w,(zeroValue et).run P w=.ok zv w)(hzv:∀w X,VR w X (.agg z) zv)(hp:es.Perm E)(hn:(E.map (·.1)).Nodup)
  (hx:st.eval x=.d (.mp true (es.map λp=>(sv p.1,p.2))))(hxk:cD x=true)(hyk:cD y=true)(hy:st.eval y=.d (.lit (sv a)))(hg:cE a z E=g)(hh:cI a E=b):
  aM P n ⟨some d,.lookup t x y true,ty,pos,af,gd⟩ st (st.set d (.tup [.agg g,.d (.lit (.bool b))])):=by
 obtain⟨h1,h2⟩:=bTj a z hp ((hp.map _).nodup_iff.2 hn);have h:=aHa (n:=n) (d:=d) (st:=st) (enc:=id) (agg:=true) (ty:=ty) (pos:=pos) (af:=af) (gd:=gd) hd hk ht hz hzv hx hxk hyk hy (aGe a);rw[h1,h2,hg,hh] at h;exact h
end
end Go.Am
end
section
section
namespace Go.Am
open RowKit Go.Sort
abbrev aDb:Mode:=⟨False⟩
theorem bPj[Mode](w:World)(k:Nat)(os:Array Obj):Keeps (λ_ _=>False) w (grow (w.drewN k) os):=by
 refine⟨rfl,rfl,rfl,?_,λb hb _=>heap_grow_old (w.drewN k) os hb,λb o hb _=>cell?_grow (w.drewN k) os ⟨b,o,none⟩ hb,λb o hb _=>frozen?_grow (w.drewN k) os ⟨b,o,none⟩ hb,λ_=>Nat.le_add_right _ _⟩;show w.heap.size<=(w.heap++os).size;rw[Array.size_append];exact Nat.le_add_right _ _
theorem bSp[Mode]{P:Program}{f:FuncId}{args:List AV}{r:AV}(h:∀(A:aS) (w:World) (vs:List Value),Amb w (aT A [])->VRs w (aT A []) args vs->(∀b o,aT A [] b o->b<w.heap.size)->Calls P f vs.toArray w λe w'=>∃v,e=.returned v/\Keeps (λ_ _=>False) w w'/\(Mono w (aT A []) w' (aT A [])->VR w' (aT A []) r v)):Fn P f args r:=by
 intro A w vs hI hA hv;refine(h A w vs hI.amb hv λb o h=>h.elim (hA b o) λ⟨m,hm,_⟩=>by simp at hm).mono ?_;rintro e w' ⟨v,rfl,hk,hr⟩;have hm:Mono w (aT A []) w' (aT A []):=lO (objs:=[]) (objs':=[]) hk (λ_ _ h=>h.elim) (λ_ _ _ h=>h);exact⟨v,r,[],rfl,hk.mono (λ_ _ h=>h.elim),⟨by simp[Sep],by simp,by simp,hI.amb.on hm⟩,hr hm,by simp,rfl,rfl⟩
def bGy:Nat->Nat->Str
 |0,u=>[UInt8.ofNat (48+u)]
 |f+1,u=>if u<10 then [UInt8.ofNat (48+u)] else bGy f (u/10)++[UInt8.ofNat (48+u % 10)]
theorem bBf:∀(f u:Nat),u<10^(f+1)->bGy f u=Lib.decDigits u
 |0,u,h=>(Lib.decDigits_one (by simpa using h)).symm
 | f+1,u,h=>by
  unfold bGy
  split
  ·rename_i h0;exact(Lib.decDigits_one h0).symm
  ·rename_i h0
   rw[Lib.decDigits,dif_neg h0,bBf f (u/10) (by rw[Nat.pow_succ] at h;omega)]
def aYu(n:Int):Option Str:=if-9223372036854775808<=n/\n<=9223372036854775807 then some (if n<0 then 45::bGy 19 n.natAbs else bGy 19 n.toNat) else none
theorem bPh{n:Int}{r:Str}(h:aYu n=some r):(-9223372036854775808<=n/\n<=9223372036854775807)/\r=Lib.itoa n:=by
 unfold aYu at h;split at h
 ·rename_i hc
  cases h;refine⟨hc,?_⟩;unfold Lib.itoa
  split
  ·rw[bBf 19 _ (by omega)]
  ·rw[bBf 19 _ (by omega)]
 ·cases h
theorem cBb[Mode]{P:Program}{f:FuncId}(hamb:∀w X,Amb w X->Lib.TabIs P w "internal/strconv.uint64pow10" .u64 Lib.pow10Tab)
  (kit:∀(n:Int),-9223372036854775808<=n->n<=9223372036854775807->∀(w:World),Lib.TabIs P w "internal/strconv.uint64pow10" .u64 Lib.pow10Tab->Calls P f #[.int .i64 n] w λe w'=>e=.returned (.string ⟨(Lib.itoa n).toArray⟩)/\∃k os,w'=grow (w.drewN k) os)
  {n:Int}{r:Str}(h:aYu n=some r):Fn P f [.i n] (.d (.lit (sv r))):=by
 obtain⟨⟨h0,h1⟩,rfl⟩:=bPh h;refine bSp λA w vs ha hv hX=>?_
 match vs,hv with
 | [u],hv=>
  have:=hv.1.lit;subst this;refine(kit n h0 h1 w (hamb _ _ ha)).mono ?_;rintro e w' ⟨rfl,k,os,rfl⟩;exact⟨_,rfl,bPj w k os,λ_=>.of_lit rfl⟩
def aAq(sep:Str):Nat->Str->List Str
 |0,s=>[s]
 |k+1,s=>if Lib.index s sep== -1 then [s] else s.take (Lib.index s sep).toNat::aAq sep k (s.drop ((Lib.index s sep).toNat+sep.length))
theorem aTk(sep:Str):∀(k:Nat) (s:Str),Lib.splitB ⟨sep.toArray⟩ 0 k ⟨s.toArray⟩=(aAq sep k s).map λs=>(⟨s.toArray⟩:ByteArray)
 |0,s=>rfl
 | k+1,s=>by
  have hi:Lib.indexB ⟨s.toArray⟩ ⟨sep.toArray⟩=Lib.index s sep:=by simp[Lib.indexB]
  unfold Lib.splitB aAq;rw[hi]
  split
  ·rfl
  ·rw[List.map_cons,aNd,Nat.add_zero,pT,pT,aNd,List.drop_zero,List.take_length,aTk sep k]
def bJt(s sep:Str):Option (List Str):=if s.length<4294967281/\1<=sep.length then some (aAq sep (Lib.count s sep) s) else none
theorem bXz[Mode]{P:Program}{f:FuncId}{t:TypeId}(hamb:∀w X,Amb w X->∃m:Int,w.cell? ⟨0,0,none⟩=some (.int .i64 m))
  (kit:∀(s sep:ByteArray) (m:Int) (w:World),s.size<4294967281->w.cell? ⟨0,0,none⟩=some (.int .i64 m)->1<=sep.size->Calls P f #[.string s,.string sep] w λe w'=>
   e=.returned (.slice (some ⟨w.heap.size,0,none⟩) (Lib.countB s sep+1) (Lib.countB s sep+1))/\w'=w.alloc (.cells ((Lib.splitB sep 0 (Lib.countB s sep) s).map Value.string).toArray t))
  {s sep:Str}{r:List Str}(h:bJt s sep=some r):Fn P f [.d (.lit (sv s)),.d (.lit (sv sep))] (.d (.sl 1 (r.map xR))):=by
 unfold bJt at h;split at h
 ·rename_i hc
  cases h;refine bSp λA w vs ha hv hX=>?_
  match vs,hv with
  | [u,q],hv=>
   have h1:=hv.1.lit;have h2:=hv.2.1.lit;subst h1;subst h2;obtain⟨m,hm⟩:=hamb _ _ ha;have hcount:Lib.countB ⟨s.toArray⟩ ⟨sep.toArray⟩=Lib.count s sep:=by simp[Lib.countB]
   have hlen:=Lib.splitB_all ⟨sep.toArray⟩ (by rw[pT];exact hc.2) 0 _ ⟨s.toArray⟩ rfl;have hle:=Lib.countB_le ⟨sep.toArray⟩ (by rw[pT];exact hc.2) s.length ⟨s.toArray⟩ (Nat.le_refl _);refine(kit ⟨s.toArray⟩ ⟨sep.toArray⟩ m w (by rw[pT];exact hc.1) hm (by rw[pT];exact hc.2)).mono ?_;rintro e w' ⟨rfl,rfl⟩;rw[hcount,pT] at hle;rw[aTk,List.length_map,hcount] at hlen;rw[hcount,aTk];refine⟨_,rfl,Keeps.alloc _ _ _,λ_=>.d ?_⟩;have hl2:((aAq sep (Lib.count s sep) s).map xR).length=Lib.count s sep+1:=by rw[List.length_map];exact hlen
   rw[<-hl2];have hcell:∀i (hi:i<(aAq sep (Lib.count s sep) s).length),(w.alloc (.cells (((aAq sep (Lib.count s sep) s).map λs=>(⟨s.toArray⟩:ByteArray)).map Value.string).toArray t)).cell? ⟨w.heap.size,0+(i*1+0),none⟩=some (sv ((aAq sep (Lib.count s sep) s)[i])):=by
    intro i hi;rw[show(0+(i*1+0):Nat)=i by omega];have e1:=heap_alloc_new w (.cells (((aAq sep (Lib.count s sep) s).map λs=>(⟨s.toArray⟩:ByteArray)).map Value.string).toArray t);simp only[World.cell?,e1];rw[List.getElem?_toArray,List.getElem?_map,List.getElem?_map,List.getElem?_eq_getElem hi]
    rfl
   refine .sl 1 _ w.heap.size 0 _ (λi _=>sv ((aAq sep (Lib.count s sep) s).getD i [])) (λr hr=>?_) (Nat.le_refl _) ?_ (λi j hi hj=>?_) (λi j hi hj=>?_)
   ·obtain⟨x,_,rfl⟩:=List.mem_map.1 hr;rfl
   ·rw[hl2];unfold maxLen;omega
   ·rw[List.length_map] at hi;have:j=0:=by omega
    subst this;exact⟨by rw[hcell i hi];simp[List.getD,hi],λhx=>by have:=hX _ _ hx;omega⟩
   ·rw[List.length_map] at hi;have:j=0:=by omega
    subst this;simp only[List.getD,List.getElem?_map,List.getElem?_eq_getElem hi,Option.map_some,Option.getD_some,xR];exact .lit _ rfl
 ·cases h
end Go.Am
end
section
namespace Go.Am
def aVn(s:Str):List Int:=s.map λb=>(b.toNat:Int)
def bOs(s:Str):Option (List Int):=if s.length<=maxLen then some (aVn s) else none
theorem bLc[Mode](w:World)(e:TypeId)(s:ByteArray):Keeps (λ_ _=>False) w (Lib.bytesWorld w e s):=by
 have hb:∀b,b<w.heap.size->(Lib.bytesWorld w e s).heap[b]?=w.heap[b]?:=λb h=>Lib.bytesWorld_at_old w e s b h;refine⟨?_,?_,?_,by rw[Lib.bytesWorld_size];omega,λb h _=>hb b h,λb o h _=>World.cell?_of_block (hb b h),λb o h _=>World.frozen?_of_block (hb b h),λ_=>?_⟩
 all_goals simp only[Lib.bytesWorld,World.freeze]
 all_goals split
 all_goals simp[World.alloc,World.drew,-World.alloc_eq,-World.drew_eq]
theorem bSl(l:List Int):(l.map aGc).flatten=l.map λn=>D.lit (.int .u8 n):=by
 induction l with
 |nil=>rfl
 |cons a l ih=>simp only[List.map_cons,List.flatten_cons,ih,aGc,List.cons_append,List.nil_append]
theorem bHc{w:World}{X:aS}:∀{l:List Int},DRs w X (l.map λn=>D.lit (.int .u8 n)) (l.map (Value.int .u8))
 |[]=>trivial
 |_::_=>⟨.lit _ rfl,bHc⟩
section
variable{P:Program}{n d:Nat}{st:St}{x y:Operand}{t u e ty:TypeId}{pos:String}{af:Array Edge}{gd:Option (Nat×Bool)}{a:Str}
theorem cBv[Mode]{l:List Int}(hd:d<n)(hx:st.eval x=.d (.lit (sv a)))(ht:P.underlying t=some .string)(hu:P.underlying u=some (.slice e))(he:P.underlying e=some (.int .u8))(h:bOs a=some l):
  aM P n ⟨some d,.convert t u x,ty,pos,af,gd⟩ st (st.set d (.d (.sl 1 (l.map aGc)))):=by
 intro A M w0 ac w hR K Q hK;have hl:a.length<=maxLen/\l=aVn a:=by
  unfold bOs at h;split at h
  ·rename_i hc;exact⟨hc,(Option.some.inj h).symm⟩
  ·cases h
 obtain⟨hl,rfl⟩:=hl;have hrun:(execOp ac.eval ⟨some d,.convert t u x,ty,pos,af,gd⟩).run P w=.ok (.value (.slice (some ⟨w.heap.size,0,none⟩) a.length (grownCap w a.length 0 e))) (Lib.bytesWorld w e ⟨a.toArray⟩):=by
  have h1:=Lib.run_convert_string_bytes (P:=P) w t u e (⟨a.toArray⟩:ByteArray) ht hu he;rw[pT] at h1;simp only[execOp,hR.lit hx,sv,Sem.run_bind];rw[h1];rfl
 unfold Oper.wp;rw[hrun,Oper.upon_value];refine hK _ _ _ rfl ?_;have hk:=bLc w e ⟨a.toArray⟩;have hR':R A M w0 n ⟨st.env,st.objs⟩ ac (Lib.bytesWorld w e ⟨a.toArray⟩):=hR.change hk (λ_ _ h=>h.elim) (λ_ _ _ h=>h) hR.inv.sep λhm m hmm=>bW (hR.inv.holds m hmm) hk (λ_ _ _ h=>h) hm;refine hR'.put (o:=⟨some d,.convert t u x,ty,pos,af,gd⟩) rfl hd (.d ?_);have hlen:((aVn a).map aGc).length=a.length:=by simp[aVn]
 rw[<-hlen];refine DR.of_flat (vs:=(aVn a).map (Value.int .u8)) (fH (f:=aGc) λ_=>rfl) (by rw[bSl];exact bHc) (λj v hj=>?_) (λj hj hx=>?_) ?_ ?_
 ·rw[Nat.zero_add];have hj':j<a.length:=by
   have:=(List.getElem?_eq_some_iff.1 hj).1
   simpa[aVn] using this
  rw[Lib.bytesWorld_cell w e _ j (by rw[pT];exact hj')];simp only[aVn,List.map_map,List.getElem?_map,List.getElem?_eq_getElem hj',Option.map_some,Option.some.injEq] at hj;rw[<-hj]
  simp[List.getD,hj']
 ·exact aDg hR _ hx
 ·rw[hlen];exact grownCap_ge w _ 0 e
 ·rw[hlen];exact grownCap_le_maxLen w _ 0 e hl
end
end Go.Am
end
end
