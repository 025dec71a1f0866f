/- The plain law TopSureCalls. -/
import Derived.Test.YtdebnakalmnnpaaGreatDoorSuP6
namespace Go.Am
set_option maxRecDepth 100000
theorem bUg(x9:lK)(ok:tH x9)(s:Int):
  (∃ b23:Bool,((bif decide (x9.Side<0) then(some true) else(some (decide (1<x9.Side)))).bind λb11=>
   (bif b11 then(some true) else((bif !decide (s=1) then(some (!decide (s=2))) else(some false)).bind λb14=>some b14)).bind λb15=>
   (bif b15 then(some true) else((rI x9.View).bind λr16=>some r16)).bind λb17=>
   (bif b17 then(some true) else((lS x9.View).bind λr18=>some (!decide (r18=0)))).bind λb19=>
   (bif b19 then(some true) else((oS x9.Box).bind λr20=>some (!r20))).bind λb21=>
   (bif b21 then(some true) else((mE x9.View x9.Mark).bind λr22=>some (!r22))).bind λb23=>some b23)=some b23/\
   (b23=false->(x9.Side=0\/x9.Side=1)/\(s=1\/s=2)/\∃c,wE x9.View x9.Box=some (c,0)/\(c=1\/c=2\/c=3)/\(c≠3->∀t,t=1\/t=2->∃kept,vB t x9.View x9.Box=some (c,kept,0))/\
    (c=1->fN x9.Mark x9.Box=some true)/\(c=2->fN x9.Mark x9.Box=some false))):=by
 obtain⟨okS,okV,okB,okM⟩:=ok;have hl:x9.View.Strips.length<=9223372036854775807:=by
  have:=okV.2.1.1;unfold maxLen at this
  omega
 have hfar:∃f,rI x9.View=some f/\(f=false->x9.View.Strips.length<=40):=by
  unfold rI
  by_cases h40:(40:Int)<(x9.View.Strips.length:Int)
  ·rw[decide_eq_true h40,cond_true];exact⟨_,rfl,λh=>by cases h⟩
  ·rw[decide_eq_false h40,cond_false,bEi _ hl];simp only[Option.bind_some,jO,cB];exact⟨_,rfl,λ_=>by omega⟩
 obtain⟨f,hf,hf40⟩:=hfar;have htr:∃b,mE x9.View x9.Mark=some b/\(b=true->(0<=x9.Mark.X/\x9.Mark.X<=x9.View.Size)/\(0<=x9.Mark.Y/\x9.Mark.Y<=x9.View.Size)/\(x9.View.HalfX.Low<=x9.Mark.HalfX/\x9.Mark.HalfX<=x9.View.HalfX.High)/\(x9.View.HalfY.Low<=x9.Mark.HalfY/\x9.Mark.HalfY<=x9.View.HalfY.High)/\aXg x9.View x9.Mark.X x9.Mark.Y)\/1000<x9.View.Strips.length:=by
  by_cases h1000:x9.View.Strips.length<=1000
  ·obtain⟨l,hw⟩:=bAq x9.View x9.Mark.X x9.Mark.Y h1000;unfold mE uE;simp only[aDo,Option.bind_some,cB,hw];refine⟨_,.inl ⟨rfl,λh=>?_⟩⟩;simp only[Bool.and_eq_true,bMc,decide_eq_true_eq] at h;exact⟨h.1.1.1.1,h.1.1.1.2,h.1.1.2,h.1.2,l,hw,h.2⟩
  ·exact⟨true,.inr (by omega)⟩
 obtain⟨b,hb⟩:=htr;rw[hf,bEi _ hl,bWj];simp only[Option.bind_some,jO,cB]
 rcases hb with⟨hb,hbt⟩|hbig
 ·rw [hb];simp only[Option.bind_some,jO];refine⟨_,rfl,λh=>?_⟩;simp only[Bool.or_eq_false_iff,Bool.not_eq_false',decide_eq_false_iff_not,decide_eq_true_eq] at h;obtain⟨⟨⟨⟨⟨hs1,hs2⟩,hfalse⟩,hview⟩,hbox⟩,htrue⟩:=h;have hv:aKs x9.View=true:=by
   cases hq:aKs x9.View with
   |true=>rfl
   |false=>rw[hq] at hview;exact absurd hview (by decide)
  have hvi:=bYl hv;obtain⟨t1,t2,t3,t4,t5⟩:=hbt htrue;have hsaid:s=1\/s=2:=by
   simp only[Bool.and_eq_false_iff,Bool.not_eq_false',decide_eq_true_eq] at hs2;exact hs2
  refine⟨by omega,hsaid,?_⟩;obtain⟨c,hc,hc3,hin,hout⟩:=bVn hvi hbox t1 t2 t3 t4 t5;have hchk:xG x9.View x9.Box=some 0:=by
   unfold xG;rw[bSv _ hl,hv,cond_true,Option.bind_some,decide_eq_true rfl,Bool.not_true,cond_false,bKy,hbox]
   rfl
  have hc0:decide (c=0)=false:=decide_eq_false (by omega);refine⟨c,?_,hc3,λhne t ht=>?_,hin,hout⟩
  ·unfold wE;rw[aX hchk,decide_eq_true rfl,Bool.not_true,cond_false,aX hc,hc0,cond_false]
  ·unfold vB;rw[aX hchk,decide_eq_true rfl,Bool.not_true,cond_false];have e4:(bif !decide (t=1) then(some (!decide (t=2))) else(some false))=some false:=by rcases ht with rfl|rfl<;>rfl
   have e6:(bif decide (c=1) then(some true) else(some (decide (c=2))))=some true:=by
    rcases hc3 with rfl|rfl|rfl
    ·rfl
    ·rfl
    ·exact absurd rfl hne
   rw[e4,Option.bind_some,cond_false,aX hc,e6,Option.bind_some,cond_true];exact⟨_,rfl⟩
 ·-- too many strips: Far says so
  have hft:f=true:=by
   cases f with
   |true=>rfl
   |false=>have:=hf40 rfl;omega
  subst hft;simp only[Bool.or_true,Bool.true_or,cond_true,Option.bind_some];exact⟨true,rfl,λh=>by cases h⟩
theorem cBc{d:cT}(hd:aIl d)(hc:jF d=some 0)(ws:List Int)(h01:∀w∈ws,w=0\/w=1)(hl:ws.length<=50):nB d ws (kP::ws.map ptL) (kP::ws.map ptL)=some true:=by
 obtain⟨l,x,hr,hI,hlen⟩:=cBu hd hc ws h01 hl;unfold nB;rw[aX hr,aX hr,bJk x.Register (by rw[hI.notes];simp) (by have:=hI.slips;omega) (by have:=hI.pts;omega) (by rw[hI.days];have:=hd.days;omega) (λy hy=>by rw[hI.days] at hy;have:=hd.day y hy;omega)];simp only[decide_true,Bool.not_true,cond_false,Option.bind_some];have main:=kW (λk i=>fO l l ws x.Register k i) l.length (λ_=>true) (some false) (some true) ?_ ?_ BIG (cC (by omega))
 ·rw[main,show(List.range l.length).all (λ_=>true)=true by simp];rfl
 ·intro k i hi;simp only[fO,Int.ofNat_lt,hi,decide_true,cond_true,bE hi,Option.bind_some,Bool.not_true,cond_false,bG (show i<9223372036854775807 by omega)]
 ·intro k;simp only[fO,Int.lt_irrefl,decide_false,cond_false,rP]
  rcases hI.st with hr1|⟨hr0,_,hp,_,_⟩
  ·rw[hr1,decide_eq_true rfl,cond_true,wX];rfl
  ·rw[hr0,decide_eq_false (by decide),cond_false,hp,aQg ws (by omega),Option.bind_some,cond_true,wX];rfl
theorem bWq{d:cT}(hd:aIl d)(hc:jF d=some 0)(l:List lK)(said:List Int)(okl:∀x∈l,tH x)(h6:l.length<=6)(hs:said.length=l.length):
  dV l said d BIG 0 [] [kP] [kP]=some true:=by
 refine aGg (S:=List Int×List Str×List Str) (λk i s=>dV l said d k i s.1 s.2.1 s.2.2) l.length (λt=>t=some true)
  (λi s=>∃ws:List Int,s=(ws,kP::ws.map ptL,kP::ws.map ptL)/\ws.length=i/\i<=l.length/\∀w∈ws,w=0\/w=1) ?_ ?_ BIG 0 ([],[kP],[kP]) (cC (by omega)) ⟨[],rfl,rfl,Nat.zero_le _,by simp⟩
 ·rintro k i s hi ⟨ws,rfl,hw,hil,h01⟩ ih;have his:i<said.length:=by omega
  simp only[dV,Int.ofNat_lt,hi,decide_true,cond_true];rw[aX (bE hi)];simp only[bE his,Option.bind_some];obtain⟨b23,e1,e2⟩:=bUg l[i] (okl _ (List.getElem_mem hi)) said[i];obtain⟨b11,q1,e1⟩:=bind_some e1;rw[aX q1];obtain⟨b15,q2,e1⟩:=bind_some e1;rw[aX q2];obtain⟨b17,q3,e1⟩:=bind_some e1;rw[aX q3];obtain⟨b19,q4,e1⟩:=bind_some e1;rw[aX q4];obtain⟨b21,q5,e1⟩:=bind_some e1;rw[aX q5];obtain⟨b23',q6,e1⟩:=bind_some e1;rw[aX q6];cases e1;cases b23 with
  |true=>rw[cond_true,wX];rfl
  | false=>
   obtain⟨hside,hsd,c,hcall,hc3,hdec,hin,hout⟩:=e2 rfl;rw[cond_false,aX hcall];simp only[decide_true,Bool.not_true,cond_false]
   by_cases h3:c=3
   ·rw[decide_eq_true h3,cond_true,wX];rfl
   ·rw [decide_eq_false h3,cond_false];have hsd':w64 (3-said[i])=1\/w64 (3-said[i])=2:=by rcases hsd with h|h<;>rw[h]<;>decide
    obtain⟨k1,d1⟩:=hdec h3 said[i] hsd;obtain⟨k2,d2⟩:=hdec h3 (w64 (3-said[i])) hsd';rw[aX d1,aX d2];simp only[decide_true,Bool.not_true,cond_false,Option.bind_some];obtain⟨w,hwn,hw01,hT⟩:∃w,pY l[i].Side c=some w/\(w=0\/w=1)/\((fN l[i].Mark l[i].Box=some true/\w=l[i].Side)\/(fN l[i].Mark l[i].Box=some false/\w=w64 (1-l[i].Side))):=by
     unfold pY
     rcases hc3 with rfl|rfl|rfl
     ·exact⟨_,rfl,hside,.inl ⟨hin rfl,rfl⟩⟩
     ·refine⟨_,rfl,?_,.inr ⟨hout rfl,rfl⟩⟩
      rcases hside with h|h<;>rw[h]<;>decide
     ·exact absurd rfl h3
    obtain⟨q,hq1,hq2⟩:=bind_some (bVp hw01);have hapS:∀(o:List Str),o.length<=1000->app 16 o [ptL w]=some (o++[ptL w]):=λo ho=>eL (by simp;omega);have hlen:(kP::ws.map ptL).length<=1000:=by simp;omega
    rw[aX hwn,aX hq1,aX hq2,aX (hapS _ hlen),aX hwn,aX hq1,aX hq2,aX (hapS _ hlen)];have hnext:((ws++[w],kP::(ws++[w]).map ptL,kP::(ws++[w]).map ptL):List Int×List Str×List Str)=(ws++[w],(kP::ws.map ptL)++[ptL w],(kP::ws.map ptL)++[ptL w]):=by simp
    have ih':=ih (ws++[w],(kP::ws.map ptL)++[ptL w],(kP::ws.map ptL)++[ptL w]) ⟨ws++[w],hnext.symm,by simp;omega,by omega,λx hx=>by
     rcases List.mem_append.1 hx with hx|hx
     ·exact h01 x hx
     ·rw[List.mem_singleton.1 hx];exact hw01⟩
    have happ:∀v:Int,app 8 ws [v]=some (ws++[v]):=λv=>eL (by simp;omega)
    rcases hT with⟨ht,hwv⟩|⟨ht,hwv⟩
    ·rw[aX ht,Bool.not_true,cond_false,aX (happ _),<-hwv,bG (show i<9223372036854775807 by omega)];exact ih'
    ·rw[aX ht,Bool.not_false,cond_true,aX (happ _),<-hwv,bG (show i<9223372036854775807 by omega)];exact ih'
 ·rintro k i s hi ⟨ws,rfl,hw,hil,h01⟩;have:¬((i:Int)<(l.length:Int)):=by omega
  simp only[dV,this,decide_false,cond_false];exact cBc hd hc ws h01 (by omega)
theorem aGu(d:cT)(l:List lK)(said:List Int)(ok0:aKg d)(ok1:okL tH l)(ok2:okL okI said):pX d l said=some true:=by
 obtain⟨b,hb,hs⟩:=bQx d ok0;unfold pX;rw[aX hb];simp only[jO,Option.bind_some];cases hq:(!b||decide ((6:Int)<(l.length:Int))||!decide ((said.length:Int)=(l.length:Int))) with
 |true=>rw[cond_true,wX];rfl
 | false=>
  rw[cond_false];simp only[Bool.or_eq_false_iff,Bool.not_eq_false',decide_eq_false_iff_not,decide_eq_true_eq] at hq;obtain⟨⟨hb1,h6⟩,hlen⟩:=hq;obtain⟨hd,hc⟩:=hs hb1;exact bWq hd hc l said ok1.2 (by omega) (by omega)
end Go.Am
