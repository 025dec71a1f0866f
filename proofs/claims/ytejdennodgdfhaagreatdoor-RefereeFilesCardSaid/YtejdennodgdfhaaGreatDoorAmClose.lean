/- Several texts, one behind the other. -/
import Derived.Test.YtejdennodgdfhaaGreatDoorAmMap
import Derived.Carry
import Derived.ChangeArms
import Derived.OpenShut
import Derived.ProofKit
section
namespace Go.Am
section
variable{P:Program}{n d:Nat}{st:St}{o:Oper}
theorem bMp[Mode]{t e k len bytes:Nat}{z:Value}{l:List (Nat×Operand)}{rows:List (List D)}{ty:TypeId}{pos:String}{af:Array Edge}{gd:Option (Nat×Bool)}(hd:d<n)
  (ht:SliceTy P t e k bytes z)(hp:uA l=true){ps:List (Nat×AV)}(hps:st.parts l=ps)(hr:oD 0 ps=some rows)(hk:∀r∈rows,r.length=k)
  (hl:rows.length=len)(hb:len*k<=16777216):aY P n ⟨some d,.buildSlice t len l.toArray,ty,pos,af,gd⟩ st (st.set d (.fl true k rows)):=by
 replace hps:=hps.symm;subst hps
 intro A M w0 a w hR K Q hK;obtain⟨vs,hrun,hds⟩:=yZ (P:=P) ht.of ht.zero ht.size (w:=w) (aAl hR hp) hr hk hl hb;unfold Oper.wp;have hrun':(execOp a.eval ⟨some d,.buildSlice t len l.toArray,ty,pos,af,gd⟩).run P w=.ok (.value (.slice (some ⟨w.heap.size,0,none⟩) len len)) (w.alloc (.cells vs.toArray e)):=by
  simp only[execOp,Sem.run_bind,List.map_toArray];rw[hrun]
  rfl
 rw[hrun',Oper.upon_value];refine hK _ _ _ rfl ?_;have hR':R A M w0 n ⟨st.env,st.objs⟩ a (w.alloc (.cells vs.toArray e)):=hR.change (Keeps.alloc (λ_ _=>False) _ _) (λ_ _ h=>h.elim) (λ_ _ _ h=>h) hR.inv.sep λhm m hmm=>
  bV (hR.inv.holds m hmm) (Keeps.alloc (λ_ _=>False) _ _) (λ_ _ _ h=>h) hm
 refine hR'.put (o:=⟨some d,.buildSlice t len l.toArray,ty,pos,af,gd⟩) rfl hd ?_;subst hl;have hm:Mono w (aV A st.objs) (w.alloc (.cells vs.toArray e)) (aV A st.objs):=gK (Keeps.alloc (λ_ _=>False) _ _) (λ_ _ h=>h.elim) (λ_ _ _ h=>h);refine .fl (DR.of_flat hk (hds.mono hm) (λj v hj=>by rw[World.cell?_alloc_new];simpa using hj) (λj hj hx=>?_) (Nat.le_refl _) (by
  have:=Nat.le_mul_of_pos_right rows.length ht.pos;simp only[maxLen];omega)) (.inr ⟨_,_,rfl⟩) (λ_ h=>by cases h)
 exact xE hR _ hx
theorem bGh[Mode]{t e k bytes:Nat}{z:Value}(ht:SliceTy P t e k bytes z){A M:bE}{w0:W0}{a:Act}{w:World}(hR:R A M w0 n st a w){nn:Bool}{v u:Value}{rows rows2:List (List D)}
  (hv:VR w (aV A st.objs) (.fl nn k rows) v)(hu:DR w (aV A st.objs) (.sl k rows2) u)(hk1:∀r∈rows,r.length=k)(hk2:∀r∈rows2,r.length=k)(hb:(rows.length+rows2.length)*bytes<=140737488355328)(hby:0<bytes)(ty:TypeId):
  ∃v' w',(Builtin.append_ #[t,t] ty #[v,u]).run P w=.ok v' w'/\R A M w0 n st a w'/\DR w' (aV A st.objs) (.sl k (rows++rows2)) v'/\(nn=true->v'≠.slice none 0 0):=by
 cases hv with
 |fl hv hc hn=>
 obtain⟨inf,hi,hz,hs,hbs⟩:=ht.inf;subst hs;subst hbs;have hn63:rows.length+rows2.length<=maxLen:=by
  have:=Nat.le_mul_of_pos_right (rows.length+rows2.length) hby;simp only[maxLen];omega
 have hn64:rows.length+rows2.length<=9223372036854775807:=by simp only[maxLen] at hn63;omega
 obtain⟨ad,m,c,news,hu',rfl,hnd,hnc⟩:=hu.news ht.pos hk2;obtain⟨ax,mx,cx,xs,hx',rfl,hxs,hxc⟩:=hv.news ht.pos hk1;have hnl:news.length=rows2.length*inf.size:=by rw[hnd.length,nZ hk2]
 have hxl:xs.length=rows.length*inf.size:=by rw[hxs.length,nZ hk1]
 have hall:∀r∈rows++rows2,r.length=inf.size:=λr hr=>by
  rcases List.mem_append.1 hr with h|h
  ·exact hk1 r h
  ·exact hk2 r h
 have fin:∀cap (cur:Array Value),rows.length+rows2.length<=cap->cap<=maxLen->cur.toList.take ((rows.length+rows2.length)*inf.size)=xs++news->
   R A M w0 n st a (w.drew.alloc (.cells cur e))/\DR (w.drew.alloc (.cells cur e)) (aV A st.objs) (.sl inf.size (rows++rows2)) (.slice (some ⟨w.heap.size,0,none⟩) (rows.length+rows2.length) cap):=by
  intro cap cur h1 h2 h4;have hk':Keeps (λ_ _=>False) w (w.drew.alloc (.cells cur e)):=(Keeps.drew _ _).trans (Keeps.alloc _ _ _);have hm:Mono w (aV A st.objs) (w.drew.alloc (.cells cur e)) (aV A st.objs):=gK hk' (λ_ _ h=>h.elim) (λ_ _ _ h=>h);refine⟨hR.change hk' (λ_ _ h=>h.elim) (λ_ _ _ h=>h) hR.inv.sep λhm m hmm=>bV (hR.inv.holds m hmm) hk' (λ_ _ _ h=>h) hm,?_⟩;have hlen:(rows++rows2).length=rows.length+rows2.length:=by simp
  rw[<-hlen];have hfl:DRs (w.drew.alloc (.cells cur e)) (aV A st.objs) (rows++rows2).flatten (xs++news):=by
   rw[List.flatten_append];exact(hxs.append hnd).mono hm
  refine DR.of_flat hall hfl (λj q hj=>?_) (λj hj hx=>?_) (by simpa using h1) h2
  ·have hsz:w.heap.size=w.drew.heap.size:=rfl;rw[hsz,World.cell?_alloc_new];rw[<-h4,List.getElem?_take] at hj;split at hj
   ·simpa using hj
   ·cases hj
  ·exact xE hR _ hx
 have zc:∀q,(Builtin.zeroCells z.cells q).size=q*inf.size:=λq=>by rw[size_zeroCells,ht.size]
 have gmax:∀old,grownCap w (rows.length+rows2.length) old e<=maxLen:=λold=>grownCap_le_maxLen w _ old e hn63;have gge:∀old,rows.length+rows2.length<=grownCap w (rows.length+rows2.length) old e:=λold=>grownCap_ge w _ old e;have tk:∀(zs:Array Value),(xs.toArray++news.toArray++zs).toList.take ((rows.length+rows2.length)*inf.size)=xs++news:=by
  intro zs;have:(rows.length+rows2.length)*inf.size=(xs++news).length:=by simp[hxl,hnl,Nat.add_mul]
  simp only[Array.toList_append,this];exact List.take_left
 by_cases hm0:rows2.length=0
 ·have hr2:rows2=[]:=List.eq_nil_of_length_eq_zero hm0;subst hr2;refine⟨v,w,?_,hR,by simpa using hv,hn⟩
  rcases hc with rfl|⟨b,q,rfl⟩<;>rcases hu' with rfl|⟨rfl,_⟩<;>
   simp[Builtin.append_,run_underlying ht.und,sizeOf,typeInfo,hi,Builtin.lenOf,Builtin.firstCells,loadCells,loadCellsFrom,storeCells]
 ·rcases hu' with rfl|⟨rfl,h0⟩
  ·rcases hc with rfl|⟨b,q,rfl⟩
   ·rcases hx' with h|⟨_,h0⟩
    ·cases h
    ·have hx0:xs=[]:=List.eq_nil_of_length_eq_zero (by rw[hxl,h0];simp);have hr:=run_append_nil (P:=P) w t ty e inf z ht.und hi hz ad rows2.length c news hnl hnc (by omega) (by omega) (by rw[h0,Nat.zero_add] at hb;omega);have hf:=fin (grownCap w (rows.length+rows2.length) 0 e) (xs.toArray++news.toArray++Builtin.zeroCells z.cells (grownCap w (rows.length+rows2.length) 0 e-(rows.length+rows2.length))) (gge 0) (gmax 0) (tk _);rw[hx0] at hf;simp only[h0,Nat.zero_add,Array.empty_append] at hf;exact⟨_,_,hr,hf.1,hf.2,λ_ h=>by cases h⟩
   ·rcases hx' with h|⟨h,_⟩
    ·cases h;have hr:=run_append_grow (P:=P) w t ty e inf z ht.und hi hz ax rows.length rows.length xs hxl hxc ad rows2.length c news hnl hnc (by omega) (by omega) (growslice_fits (by omega) hb);have hf:=fin (grownCap w (rows.length+rows2.length) rows.length e) (xs.toArray++news.toArray++Builtin.zeroCells z.cells (grownCap w (rows.length+rows2.length) rows.length e-(rows.length+rows2.length))) (gge _) (gmax _) (tk _);exact⟨_,_,hr,hf.1,hf.2,λ_ h=>by cases h⟩
    ·cases h
  ·omega
theorem bBk[Mode]{nn:Bool}{t e k bytes:Nat}{z:Value}{x y:Operand}{rows rows2:List (List D)}{ty:TypeId}{pos:String}{af:Array Edge}{gd:Option (Nat×Bool)}(hd:d<n)(ht:SliceTy P t e k bytes z)
  (hx:st.eval x=.fl nn k rows)(hy:st.eval y=.d (.sl k rows2))(hk1:∀r∈rows,r.length=k)(hk2:∀r∈rows2,r.length=k)
  (hb:(rows.length+rows2.length)*bytes<=140737488355328)(hby:0<bytes):
  aY P n ⟨some d,.call {callee:=.builtin .append,args:= #[x,y],argTypes:= #[t,t]},ty,pos,af,gd⟩ st (st.set d (bif nn then .d (.sn k (rows++rows2)) else .d (.sl k (rows++rows2)))):=by
 intro A M w0 a w hR K Q hK;have hky:cJ y=true:=by cases y with|const u=>cases hy|_=>rfl
 have hkx:cJ x=true:=by cases x with|const u=>cases hx|_=>rfl
 have h:=hR.eval' hky;rw[hy] at h;have hv:=hR.eval' hkx;rw[hx] at hv
 generalize hu:a.eval y=u at h
 cases h with
 | d h=>
  obtain⟨v',w',hr,hR',hdr,hnn⟩:=bGh ht hR hv h hk1 hk2 hb hby ty;unfold Oper.wp;have hrun:(execOp a.eval ⟨some d,.call {callee:=.builtin .append,args:= #[x,y],argTypes:= #[t,t]},ty,pos,af,gd⟩).run P w=.ok (.value v') w':=by
   simp[execOp,resolve,invoke,builtin,hu,hr]
  rw[hrun,Oper.upon_value];refine hK _ _ _ rfl (hR'.put (o:=⟨some d,.call {callee:=.builtin .append,args:= #[x,y],argTypes:= #[t,t]},ty,pos,af,gd⟩) rfl hd ?_);cases nn with
  |false=>exact .d hdr
  |true=>exact .d (hdr.strong (hnn rfl))
end
theorem mA{w:World}{X:bE}{zs:List D}(h:zOK zs=true):DRs w X zs (zs.map bD):=zF h
end Go.Am
end
section
namespace Go.Am
open Go.ChangeShapes Go.WideShapes Go.ChangeAt Go.RowKit
def Rd(P:Program)(t:TypeId){α:Type}(enc:α->List D)(ok:α->Prop):Prop:=
 ∀ (H:Type) (eh:TypeId×Value->H) (w:World) (X:bE),(∀b o,¬X b o)->∀(fuel:Nat) (cs:List Value) (x:DataW H×List MemPlace),DataW.trod eh P w 0 (λ_=>true) true fuel t cs=some x->
  ∃a:α,ok a/\DRs w X (enc a) cs
section
variable{P:Program}
theorem aVi{t:TypeId}(ht:P.underlying t=some .string):Rd P t iI okS:=by
 intro H eh w X hX fuel cs x h;obtain⟨s,rfl,_,hw⟩:=DataW.trod_string ht h;refine⟨s.data.toList,by simpa[okS] using hw,?_,trivial⟩;have e:(⟨s.data.toList.toArray⟩:ByteArray)=s:=by cases s;simp
 rw[e];exact .lit _ rfl
theorem aYy{α β:Type}{f:α->Option β}:∀{l:List α} {vs:List β},l.mapM f=some vs->vs.length=l.length/\∀(j:Nat) (x:α),l[j]?=some x->f x=vs[j]?
 | [],vs,h=>by
  simp at h
  subst h
  simp
 | a::l,vs,h=>by
  rw[List.mapM_cons] at h;simp only[bind,Option.bind_eq_some_iff,pure,Option.some.injEq] at h;obtain⟨b,hb,bs,hbs,rfl⟩:=h;obtain⟨h1,h2⟩:=aYy hbs;refine⟨by simp[h1],λj x hj=>?_⟩;cases j with
  |zero=>simp at hj;subst hj;simpa using hb
  |succ j=>simpa using h2 j x (by simpa using hj)
theorem aKf{w:World}{a:Addr}{n:Nat}{vs:List Value}(h:w.cells? 0 a n=some vs):vs.length=n/\∀j,j<n->w.cell? (a.add j)=vs[j]?:=by
 unfold World.cells? at h;rw[if_pos (Nat.zero_le _)] at h;obtain⟨h1,h2⟩:=aYy h;exact⟨by simpa using h1,λj hj=>h2 j j (by simp[hj])⟩
theorem bMi{t e:TypeId}{k:Nat}{α:Type}{enc:α->List D}{ok:α->Prop}(ht:P.underlying t=some (.slice e))(hc:P.cellsOf e=k)(hk0:0<k)(he:Rd P e enc ok)(hk:∀a,(enc a).length=k):
  Rd P t (λxs:List α=>[.sl k (xs.map enc)]) (okL ok):=by
 intro H eh w X hX fuel cs x h;subst hc
 rcases DataW.trod_slice ht h with⟨rfl,_⟩|⟨a,len,cap,elems,rest,n,_,rfl,_,hb,hl,hm,hlen,hel,hsp,_⟩
 ·exact⟨[],⟨Nat.zero_le _,by simp⟩,.nil _,trivial⟩
 ·have each:∀i,i<len->∃(y:α) (vs:List Value),ok y/\DRs w X (enc y) vs/\w.cells? 0 (a.add (i*P.cellsOf e)) (P.cellsOf e)=some vs:=by
   intro i hi;have h1:=hel i hi;rw[List.getElem?_eq_getElem (by omega)] at h1;obtain⟨vs,h2,h3⟩:=Option.bind_eq_some_iff.1 h1;obtain⟨y,hy,hd⟩:=he H eh w X hX _ _ _ h3;exact⟨y,vs,hy,hd,h2⟩
  have all:∀m,m<=len->∃xs:List α,xs.length=m/\∀i y,xs[i]?=some y->ok y/\∃vs,DRs w X (enc y) vs/\w.cells? 0 (a.add (i*P.cellsOf e)) (P.cellsOf e)=some vs:=by
   intro m
   induction m with
   |zero=>exactλ_=>⟨[],rfl,by simp⟩
   | succ m ih=>
    intro hm;obtain⟨xs,hx,hxs⟩:=ih (by omega);obtain⟨y,vs,hy,hd,hcs⟩:=each m (by omega);refine⟨xs++[y],by simp[hx],λi z hz=>?_⟩
    by_cases hi:i<m
    ·rw[List.getElem?_append_left (by omega)] at hz;exact hxs i z hz
    ·rw[List.getElem?_append_right (by omega),hx] at hz;have:i=m:=by
      have:=(List.getElem?_eq_some_iff.1 hz).1
      simp at this;omega
     subst this
     simp at hz
     subst hz;exact⟨hy,vs,hd,hcs⟩
  obtain⟨xs,hxl,hxs⟩:=all len (Nat.le_refl _);refine⟨xs,⟨by omega,λy hy=>?_⟩,?_,trivial⟩
  ·obtain⟨i,hi⟩:=List.getElem?_of_mem hy;exact(hxs i y hi).1
  ·by_cases h0:cap=0
   ·have:len=0:=by omega
    subst this;subst h0;have:xs=[]:=List.eq_nil_of_length_eq_zero hxl;subst this;exact .e0 _ a
   ·have hspot:a.spot=none:=by
     obtain⟨hs1,hs2⟩:=hsp rfl;have key:∃vs,w.cells? 0 (a.add (0*P.cellsOf e)) (P.cellsOf e)=some vs:=by
      by_cases hl0:0<len
      ·obtain⟨_,vs,_,_,h⟩:=each 0 hl0;exact⟨vs,h⟩
      ·have h1:=hs2 0 (by omega);rw[List.getElem?_eq_getElem (by omega)] at h1;obtain⟨vs,h2,_⟩:=Option.bind_eq_some_iff.1 h1;have:len=0:=by omega
       subst this;exact⟨vs,by simpa using h2⟩
     obtain⟨vs,hvs⟩:=key;obtain⟨g1,g2⟩:=aKf hvs;have g3:=g2 0 hk0;rw[List.getElem?_eq_getElem (by omega)] at g3;have:=World.cell?_spot g3
     simpa[Addr.add] using this
    obtain⟨b,o,spot⟩:=a;simp only at hspot;subst hspot;have hxl':len=(xs.map enc).length:=by simp[hxl]
    rw[hxl'];refine .sl _ _ b o cap (λi j=>(w.cell? ⟨b,o+(i*P.cellsOf e+j),none⟩).getD undef) (λr hr=>?_) (by rw[<-hxl'];exact hl) hm (λi j hi hj=>?_) (λi j hi hj=>?_)
    ·obtain⟨y,_,rfl⟩:=List.mem_map.1 hr;exact hk y
    ·rw[<-hxl'] at hi;obtain⟨_,vs,hd,hcs⟩:=hxs i _ (List.getElem?_eq_getElem (by omega));obtain⟨g1,g2⟩:=aKf hcs;have g3:=g2 j hj;rw[List.getElem?_eq_getElem (by omega)] at g3;have e1:(((⟨b,o,none⟩:Addr).add (i*P.cellsOf e)).add j)=⟨b,o+(i*P.cellsOf e+j),none⟩:=by
      rw[Addr.add_lit,Addr.add_lit,Nat.add_assoc]
     rw[e1] at g3;exact⟨by simp[g3],hX _ _⟩
    ·rw[<-hxl'] at hi;have hix:i<xs.length:=by omega
     obtain⟨_,vs,hd,hcs⟩:=hxs i _ (List.getElem?_eq_getElem hix);obtain⟨g1,g2⟩:=aKf hcs;have g3:=g2 j hj;have e1:(((⟨b,o,none⟩:Addr).add (i*P.cellsOf e)).add j)=⟨b,o+(i*P.cellsOf e+j),none⟩:=by
      rw[Addr.add_lit,Addr.add_lit,Nat.add_assoc]
     rw[e1] at g3;have hjy:j<(enc xs[i]).length:=by rw[hk];exact hj
     obtain⟨q,hq,hdq⟩:=hd.get (List.getElem?_eq_getElem hjy);rw[hq] at g3;have e2:((xs.map enc).getD i []).getD j (.lit undef)=(enc xs[i])[j]:=by
      simp[List.getD,List.getElem?_eq_getElem hix,List.getElem?_eq_getElem hjy]
     rw[e2];simp only[g3,Option.getD_some];exact hdq
end
theorem Keeps.below[Mode]{w w':World}(h:Keeps (dR []) w w'):RowKit.Below w.heap.size w w':=
 ⟨h.os,h.tape,h.output,h.size,λb hb=>h.block b hb λo ⟨m,hm,_⟩=>by simp at hm⟩
theorem aNy{H:Type}{eh:TypeId×Value->H}{P:Program}(hl:laidOutB P=true){W W':World}(hb:RowKit.Below W.heap.size W W'):
  ∀ {ts:List TypeId} {vs:List Value} {ds:List (DataW H)} {ps:List MemPlace},(ts.all λt=>P.readableRec t&&decide (t<P.types.size))=true->(∀x∈ps,x.block<W.heap.size)->
   DataW.TrodAll eh P W 0 (λ_=>true) true ts vs ds ps->DataW.TrodAll eh P W' 0 (λb=>decide (b<W.heap.size)) true ts vs ds ps
 |[],[],[],_,_,_,h=>h
 | t::ts,v::vs,d::ds,ps,ht,hlt,h=>by
  obtain⟨p,q,h1,h2,rfl⟩:=h;simp only[List.all_cons,Bool.and_eq_true,decide_eq_true_eq] at ht;exact⟨p,q,RowKit.Below.trod hl ht.1.1 ht.1.2 h1 hb λx hx=>hlt x (List.mem_append.2 (.inl hx)),aNy hl hb ht.2 (λx hx=>hlt x (List.mem_append.2 (.inr hx))) h2,rfl⟩
 |[],_::_,_,_,_,_,h=>h.elim
 |[],[],_::_,_,_,_,h=>h.elim
 |_::_,[],_,_,_,_,h=>h.elim
 |_::_,_::_,[],_,_,_,h=>h.elim
theorem bLy{P:Program}{f:Func}{s:ChangeSpec}{tb:TypeId}(hl:laidOutB P=true)(hres:f.resultTypes= #[tb])(htb:P.underlying tb=some .bool)(hvars:s.vars=[])
  (ht:(f.params.toList.all λt=>P.readableRec t&&decide (t<P.types.size))=true)
  {H:Type}{eh:TypeId×Value->H}{W W':World}{args:Array Value}{ds gs:List (DataW H)}{before:List MemPlace}(hW:DataW.Whole eh P f.params.toList s.vars false W args.toList ds gs before)
  (hb:RowKit.Below W.heap.size W W')(hfn:s.fn H (ds++gs)={results:=[.lit (.bool true)],args:=ds}):s.post eh P f false true false false W args (.bool true) W':=by
 have hlt:=hW.lt;have hW0:=hW;obtain⟨p,q,hA,hV,rfl,hfz,hnd⟩:=hW;rw[hvars] at hV;obtain⟨rfl,rfl⟩:=trodVars_none hV;refine⟨ds,[],p++[],[],p,[],hW0,?_,?_,?_,?_,λh=>by cases h⟩
 ·rw[hres,hfn];exact trodAll_cons_mk (shut_bool htb _) trodAll_mk0
 ·rw[hfn];exact aNy hl hb ht (λx hx=>hlt x (by simpa using hx)) hA
 ·rw[hfn,hvars];rfl
 ·exact hb.frame _
section
variable{P:Program}{W:World}{X:bE}{r:Reach}{base:Nat}{t:TypeId}{v:Value}{H:Type}{eh:TypeId×Value->H}{d:DataW H}{p:List MemPlace}{α:Type}{ok:α->Prop}
theorem bUd{e:TypeId}{k:Nat}{enc:α->List D}{ok:List α->Prop}(ht:P.underlying t=some (.slice e))(hr:Rd P t (λxs:List α=>[.sl k (xs.map enc)]) ok)(hv:Value.okWide P W r base t v)
  (h:DataW.Trod eh P W 0 (λ_=>true) true t v d p)(hX:∀b o,¬X b o):∃xs,ok xs/\VR W X (.d (.sl k (xs.map enc))) v:=by
 obtain⟨fuel,h⟩:=h;obtain⟨xs,h1,h2⟩:=hr H eh W X hX fuel _ _ h;refine⟨xs,h1,?_⟩;have hc:v.cells.toList=[v]:=by
  simp only[Value.okWide,ht,Cell.okWide,Cell.ok] at hv;split at hv<;>first|rfl|(simp_all[Cell.ok];done)|(cases v<;>simp_all[Cell.ok,Value.cells])
 rw[hc] at h2;exact .d h2.1
theorem bJx(ht:P.underlying t=some .string)(hv:Value.okWide P W r base t v)
  (h:DataW.Trod eh P W 0 (λ_=>true) true t v d p)(hX:∀b o,¬X b o):∃a:Str,okS a/\VR W X (.d (.lit (.string ⟨a.toArray⟩))) v:=by
 obtain⟨fuel,h⟩:=h;obtain⟨xs,h1,h2⟩:=aVi ht H eh W X hX fuel _ _ h;refine⟨xs,h1,?_⟩;have hc:v.cells.toList=[v]:=by
  simp only[Value.okWide,ht,Cell.okWide] at hv;cases v<;>first|rfl|simp_all[Cell.ok]
 rw[hc] at h2;exact .d h2.1
theorem bHw[Mode]{f:FuncId}{fn:Func}{s:ChangeSpec}{tb:TypeId}(hl:laidOutB P=true)(hres:fn.resultTypes= #[tb])(htb:P.underlying tb=some .bool)(hvars:s.vars=[])
  (ht:(fn.params.toList.all λt=>P.readableRec t&&decide (t<P.types.size))=true){args:Array Value}{ds gs:List (DataW H)}{before:List MemPlace}(hW:DataW.Whole eh P fn.params.toList s.vars false W args.toList ds gs before)
  (hfn:s.fn H (ds++gs)={results:=[.lit (.bool true)],args:=ds}){avs:List AV}(hf:Fn P f avs (.b true))(hv:VRs W (aV (λ_ _=>False) []) avs args.toList)(hamb:Amb W (aV (λ_ _=>False) [])):
  Calls P f args W λe W'=>∃v,e=.returned v/\s.post eh P fn false true false false W args v W':=by
 refine(hf (λ_ _=>False) W args.toList ⟨by simp[Sep],by simp,by simp,hamb⟩ (λ_ _ h=>h.elim) hv).mono ?_;rintro e w' ⟨v,r',objs',rfl,hk,hinv,hr,hnew,rfl,rfl⟩;have:=hr.lit;subst this;exact⟨_,rfl,bLy hl hres htb hvars ht hW hk.below hfn⟩
theorem aMn(b o:Nat):¬aV (λ_ _=>False) [] b o:=by
 rintro(h|⟨m,hm,_⟩)
 ·exact h
 ·simp at hm
end
end Go.Am
end
