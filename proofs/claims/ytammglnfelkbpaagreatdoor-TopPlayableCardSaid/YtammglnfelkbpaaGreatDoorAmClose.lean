/- Several texts, one behind the other. -/
import Derived.Test.YtammglnfelkbpaaGreatDoorAmMap
import Derived.Carry
import Derived.ChangeArms
import Derived.OpenShut
import Derived.ProofKit
section
namespace Go.Am
section
variable{P:Program}{n d:Nat}{st:St}{o:Oper}
theorem aXd[Mode]{t e k len bytes:Nat}{z:Value}{l:List (Nat×Operand)}{rows:List (List D)}{ty:TypeId}{pos:String}{af:Array Edge}{gd:Option (Nat×Bool)}(hd:d<n)
  (ht:SliceTy P t e k bytes z)(hp:wC l=true){ps:List (Nat×AV)}(hps:st.parts l=ps)(hr:rE 0 ps=some rows)(hk:∀r∈rows,r.length=k)
  (hl:rows.length=len)(hb:len*k<=16777216):aQ P n ⟨some d,.buildSlice t len l.toArray,ty,pos,af,gd⟩ st (st.set d (.fl true k rows)):=by
 replace hps:=hps.symm;subst hps
 intro A M w0 a w hR K Q hK;obtain⟨vs,hrun,hds⟩:=aEr (P:=P) ht.of ht.zero ht.size (w:=w) (aBj hR hp) hr hk hl hb;unfold Oper.wp;have hrun':(execOp a.eval ⟨some d,.buildSlice t len l.toArray,ty,pos,af,gd⟩).run P w=.ok (.value (.slice (some ⟨w.heap.size,0,none⟩) len len)) (w.alloc (.cells vs.toArray e)):=by
  simp only[execOp,Sem.run_bind,List.map_toArray];rw[hrun]
  rfl
 rw[hrun',Oper.upon_value];refine hK _ _ _ rfl ?_;have hR':R A M w0 n ⟨st.env,st.objs⟩ a (w.alloc (.cells vs.toArray e)):=hR.change (Keeps.alloc (λ_ _=>False) _ _) (λ_ _ h=>h.elim) (λ_ _ _ h=>h) hR.inv.sep λhm m hmm=>
  cI (hR.inv.holds m hmm) (Keeps.alloc (λ_ _=>False) _ _) (λ_ _ _ h=>h) hm
 refine hR'.put (o:=⟨some d,.buildSlice t len l.toArray,ty,pos,af,gd⟩) rfl hd ?_;subst hl;have hm:Mono w (aU A st.objs) (w.alloc (.cells vs.toArray e)) (aU A st.objs):=lR (Keeps.alloc (λ_ _=>False) _ _) (λ_ _ h=>h.elim) (λ_ _ _ h=>h);refine .fl (DR.of_flat hk (hds.mono hm) (λj v hj=>by rw[World.cell?_alloc_new];simpa using hj) (λj hj hx=>?_) (n5 _) (by
  have:=aE6 rows.length ht.pos;simp only[maxLen];omega)) (.inr ⟨_,_,rfl⟩) (λ_ h=>by cases h)
 exact aCn hR _ hx
theorem bTx[Mode]{t e k bytes:Nat}{z:Value}(ht:SliceTy P t e k bytes z){A M:aR}{w0:W0}{a:Act}{w:World}(hR:R A M w0 n st a w){nn:Bool}{v u:Value}{rows rows2:List (List D)}
  (hv:VR w (aU A st.objs) (.fl nn k rows) v)(hu:DR w (aU A st.objs) (.sl k rows2) u)(hk1:∀r∈rows,r.length=k)(hk2:∀r∈rows2,r.length=k)(hb:(rows.length+rows2.length)*bytes<=140737488355328)(hby:0<bytes)(ty:TypeId):
  ∃v' w',(Builtin.append_ #[t,t] ty #[v,u]).run P w=.ok v' w'/\R A M w0 n st a w'/\DR w' (aU A st.objs) (.sl k (rows++rows2)) v'/\(nn=true->v'≠.slice none 0 0):=by
 cases hv with
 |fl hv hc hn=>
 obtain⟨inf,hi,hz,hs,hbs⟩:=ht.inf;subst hs;subst hbs;have hn63:rows.length+rows2.length<=maxLen:=by
  have:=aE6 (rows.length+rows2.length) hby;simp only[maxLen];omega
 have hn64:rows.length+rows2.length<=9223372036854775807:=by simp only[maxLen] at hn63;omega
 obtain⟨ad,m,c,news,hu',rfl,hnd,hnc⟩:=hu.news ht.pos hk2;obtain⟨ax,mx,cx,xs,hx',rfl,hxs,hxc⟩:=hv.news ht.pos hk1;have hnl:news.length=rows2.length*inf.size:=by rw[hnd.length,sZ hk2]
 have hxl:xs.length=rows.length*inf.size:=by rw[hxs.length,sZ hk1]
 have hall:∀r∈rows++rows2,r.length=inf.size:=λr hr=>by
  rcases i6.1 hr with h|h
  ·exact hk1 r h
  ·exact hk2 r h
 have fin:∀cap (cur:Array Value),rows.length+rows2.length<=cap->cap<=maxLen->cur.toList.take ((rows.length+rows2.length)*inf.size)=xs++news->
   R A M w0 n st a (w.drew.alloc (.cells cur e))/\DR (w.drew.alloc (.cells cur e)) (aU A st.objs) (.sl inf.size (rows++rows2)) (.slice (some ⟨w.heap.size,0,none⟩) (rows.length+rows2.length) cap):=by
  intro cap cur h1 h2 h4;have hk':Keeps (λ_ _=>False) w (w.drew.alloc (.cells cur e)):=(Keeps.drew _ _).trans (Keeps.alloc _ _ _);have hm:Mono w (aU A st.objs) (w.drew.alloc (.cells cur e)) (aU A st.objs):=lR hk' (λ_ _ h=>h.elim) (λ_ _ _ h=>h);refine⟨hR.change hk' (λ_ _ h=>h.elim) (λ_ _ _ h=>h) hR.inv.sep λhm m hmm=>cI (hR.inv.holds m hmm) hk' (λ_ _ _ h=>h) hm,?_⟩;have hlen:(rows++rows2).length=rows.length+rows2.length:=by simp
  rw[<-hlen];have hfl:DRs (w.drew.alloc (.cells cur e)) (aU A st.objs) (rows++rows2).flatten (xs++news):=by
   rw[List.flatten_append];exact(hxs.append hnd).mono hm
  refine DR.of_flat hall hfl (λj q hj=>?_) (λj hj hx=>?_) (by simpa using h1) h2
  ·have hsz:w.heap.size=w.drew.heap.size:=rfl;rw[hsz,World.cell?_alloc_new];rw[<-h4,aF3] at hj;split at hj
   ·simpa using hj
   ·cases hj
  ·exact aCn hR _ hx
 have zc:∀q,(Builtin.zeroCells z.cells q).size=q*inf.size:=λq=>by rw[size_zeroCells,ht.size]
 have gmax:∀old,grownCap w (rows.length+rows2.length) old e<=maxLen:=λold=>grownCap_le_maxLen w _ old e hn63;have gge:∀old,rows.length+rows2.length<=grownCap w (rows.length+rows2.length) old e:=λold=>grownCap_ge w _ old e;have tk:∀(zs:Array Value),(xs.toArray++news.toArray++zs).toList.take ((rows.length+rows2.length)*inf.size)=xs++news:=by
  intro zs;have:(rows.length+rows2.length)*inf.size=(xs++news).length:=by simp[hxl,hnl,Nat.add_mul]
  simp only[Array.toList_append,this];exact List.take_left
 by_cases hm0:rows2.length=0
 ·have hr2:rows2=[]:=y7 hm0;subst hr2;refine⟨v,w,?_,hR,by simpa using hv,hn⟩
  rcases hc with rfl|⟨b,q,rfl⟩<;>rcases hu' with rfl|⟨rfl,_⟩<;>
   simp[Builtin.append_,run_underlying ht.und,sizeOf,typeInfo,hi,Builtin.lenOf,Builtin.firstCells,loadCells,loadCellsFrom,storeCells]
 ·rcases hu' with rfl|⟨rfl,h0⟩
  ·rcases hc with rfl|⟨b,q,rfl⟩
   ·rcases hx' with h|⟨_,h0⟩
    ·cases h
    ·have hx0:xs=[]:=y7 (by rw[hxl,h0];simp);have hr:=run_append_nil (P:=P) w t ty e inf z ht.und hi hz ad rows2.length c news hnl hnc (by omega) (by omega) (by rw[h0,s8] at hb;omega);have hf:=fin (grownCap w (rows.length+rows2.length) 0 e) (xs.toArray++news.toArray++Builtin.zeroCells z.cells (grownCap w (rows.length+rows2.length) 0 e-(rows.length+rows2.length))) (gge 0) (gmax 0) (tk _);rw[hx0] at hf;simp only[h0,s8,Array.empty_append] at hf;exact⟨_,_,hr,hf.1,hf.2,λ_ h=>by cases h⟩
   ·rcases hx' with h|⟨h,_⟩
    ·cases h;have hr:=run_append_grow (P:=P) w t ty e inf z ht.und hi hz ax rows.length rows.length xs hxl hxc ad rows2.length c news hnl hnc (by omega) (by omega) (growslice_fits (by omega) hb);have hf:=fin (grownCap w (rows.length+rows2.length) rows.length e) (xs.toArray++news.toArray++Builtin.zeroCells z.cells (grownCap w (rows.length+rows2.length) rows.length e-(rows.length+rows2.length))) (gge _) (gmax _) (tk _);exact⟨_,_,hr,hf.1,hf.2,λ_ h=>by cases h⟩
    ·cases h
  ·omega
theorem aVn[Mode]{nn:Bool}{t e k bytes:Nat}{z:Value}{x y:Operand}{rows rows2:List (List D)}{ty:TypeId}{pos:String}{af:Array Edge}{gd:Option (Nat×Bool)}(hd:d<n)(ht:SliceTy P t e k bytes z)
  (hx:st.eval x=.fl nn k rows)(hy:st.eval y=.d (.sl k rows2))(hk1:∀r∈rows,r.length=k)(hk2:∀r∈rows2,r.length=k)
  (hb:(rows.length+rows2.length)*bytes<=140737488355328)(hby:0<bytes):
  aQ P n ⟨some d,.call {callee:=.builtin .append,args:= #[x,y],argTypes:= #[t,t]},ty,pos,af,gd⟩ st (st.set d (bif nn then .d (.sn k (rows++rows2)) else .d (.sl k (rows++rows2)))):=by
 intro A M w0 a w hR K Q hK;have hky:cD y=true:=by cases y with|const u=>cases hy|_=>rfl
 have hkx:cD x=true:=by cases x with|const u=>cases hx|_=>rfl
 have h:=hR.eval' hky;rw[hy] at h;have hv:=hR.eval' hkx;rw[hx] at hv
 generalize hu:a.eval y=u at h
 cases h with
 | d h=>
  obtain⟨v',w',hr,hR',hdr,hnn⟩:=bTx ht hR hv h hk1 hk2 hb hby ty;unfold Oper.wp;have hrun:(execOp a.eval ⟨some d,.call {callee:=.builtin .append,args:= #[x,y],argTypes:= #[t,t]},ty,pos,af,gd⟩).run P w=.ok (.value v') w':=by
   simp[execOp,resolve,invoke,builtin,hu,hr]
  rw[hrun,Oper.upon_value];refine hK _ _ _ rfl (hR'.put (o:=⟨some d,.call {callee:=.builtin .append,args:= #[x,y],argTypes:= #[t,t]},ty,pos,af,gd⟩) rfl hd ?_);cases nn with
  |false=>exact .d hdr
  |true=>exact .d (hdr.strong (hnn rfl))
theorem bEz[Mode]{nn:Bool}{α:Type}{t e k bytes:Nat}{z:Value}{x y:Operand}{f:α->List D}{xs ys zs:List α}{ty:TypeId}{pos:String}{af:Array Edge}{gd:Option (Nat×Bool)}(hd:d<n)(ht:SliceTy P t e k bytes z)
  (hx:st.eval x=.fl nn k (xs.map f))(hy:st.eval y=.d (.sl k (ys.map f)))(hk:∀x,(f x).length=k)
  (h:app bytes xs ys=some zs)(hby:Nat.blt 0 bytes=true):
  aQ P n ⟨some d,.call {callee:=.builtin .append,args:= #[x,y],argTypes:= #[t,t]},ty,pos,af,gd⟩ st (st.set d (bif nn then .d (.sn k (zs.map f)) else .d (.sl k (zs.map f)))):=by
 obtain⟨h1,rfl⟩:=aIq h;have:=aVn (ty:=ty) (pos:=pos) (af:=af) (gd:=gd) hd ht hx hy (gB hk) (gB hk) (by simpa using h1) (aC hby)
 simpa using this
end
theorem bPp[Mode]{P:Program}{f:FuncId}{fn:Func}{c:Code}{args:List AV}{objs:List MO}{Q:AV->List MO->Prop}(hf:P.funcs[f]?=some fn)(hb:fn.body=some c){rs:List ResultVar}(hr:fn.results=rs.toArray){n:Nat}(hn:fn.ntmps=n)(ha:args.length<=n)
  (h:Tr P n c ⟨entry args,objs⟩ (λe st=>e=.ret/\∃r',aNj st rs r'/\Q r' st.objs)):aX P f args objs Q:=by
 subst hn;exact aIn hf hb hr ha (nJ h λe s ⟨h1,r',h2,h3⟩=>⟨.inl h1,r',h2,h3⟩)
theorem aBe{w:World}{X:aR}{zs:List D}(h:zOK zs=true):DRs w X zs (zs.map bD):=aAs h
end Go.Am
end
section
namespace Go.Am
open Go.ChangeShapes Go.WideShapes Go.ChangeAt Go.RowKit
def Rd(P:Program)(t:TypeId){α:Type}(enc:α->List D)(ok:α->Prop):Prop:=
 ∀ (H:Type) (eh:TypeId×Value->H) (w:World) (X:aR),(∀b o,¬X b o)->∀(fuel:Nat) (cs:List Value) (x:DataW H×List MemPlace),DataW.trod eh P w 0 (λ_=>true) true fuel t cs=some x->
  ∃a:α,ok a/\DRs w X (enc a) cs
section
variable{P:Program}
theorem mX{t:TypeId}(ht:P.underlying t=some (.int .i64)):Rd P t aP okI:=by
 intro H eh w X hX fuel cs x h;obtain⟨n,rfl,_,hw⟩:=DataW.trod_int ht h;exact⟨n,by simpa[okI,Lit.wf,IntKind.min,IntKind.max,IntKind.signed,IntKind.bits] using hw,.lit _ rfl,trivial⟩
theorem bOi{t:TypeId}(ht:P.underlying t=some .bool):Rd P t tW okB:=by
 intro H eh w X hX fuel cs x h;obtain⟨n,rfl,_⟩:=DataW.trod_bool ht h;exact⟨n,trivial,.lit _ rfl,trivial⟩
theorem bIq{α β:Type}{f:α->Option β}:∀{l:List α} {vs:List β},l.mapM f=some vs->vs.length=l.length/\∀(j:Nat) (x:α),l[j]?=some x->f x=vs[j]?
 | [],vs,h=>by
  simp at h
  subst h
  simp
 | a::l,vs,h=>by
  rw[List.mapM_cons] at h;simp only[bind,aE7,pure,m7] at h;obtain⟨b,hb,bs,hbs,rfl⟩:=h;obtain⟨h1,h2⟩:=bIq hbs;refine⟨by simp[h1],λj x hj=>?_⟩;cases j with
  |zero=>simp at hj;subst hj;simpa using hb
  |succ j=>simpa using h2 j x (by simpa using hj)
theorem aRg{w:World}{a:Addr}{n:Nat}{vs:List Value}(h:w.cells? 0 a n=some vs):vs.length=n/\∀j,j<n->w.cell? (a.add j)=vs[j]?:=by
 unfold World.cells? at h;rw[if_pos (aF8 _)] at h;obtain⟨h1,h2⟩:=bIq h;exact⟨by simpa using h1,λj hj=>h2 j j (by simp[hj])⟩
theorem aPh{t e:TypeId}{k:Nat}{α:Type}{enc:α->List D}{ok:α->Prop}(ht:P.underlying t=some (.slice e))(hc:P.cellsOf e=k)(hk0:0<k)(he:Rd P e enc ok)(hk:∀a,(enc a).length=k):
  Rd P t (λxs:List α=>[.sl k (xs.map enc)]) (okL ok):=by
 intro H eh w X hX fuel cs x h;subst hc
 rcases DataW.trod_slice ht h with⟨rfl,_⟩|⟨a,len,cap,elems,rest,n,_,rfl,_,hb,hl,hm,hlen,hel,hsp,_⟩
 ·exact⟨[],⟨aF8 _,by simp⟩,.nil _,trivial⟩
 ·have each:∀i,i<len->∃(y:α) (vs:List Value),ok y/\DRs w X (enc y) vs/\w.cells? 0 (a.add (i*P.cellsOf e)) (P.cellsOf e)=some vs:=by
   intro i hi;have h1:=hel i hi;rw[g9 (by omega)] at h1;obtain⟨vs,h2,h3⟩:=aE7.1 h1;obtain⟨y,hy,hd⟩:=he H eh w X hX _ _ _ h3;exact⟨y,vs,hy,hd,h2⟩
  have all:∀m,m<=len->∃xs:List α,xs.length=m/\∀i y,xs[i]?=some y->ok y/\∃vs,DRs w X (enc y) vs/\w.cells? 0 (a.add (i*P.cellsOf e)) (P.cellsOf e)=some vs:=by
   intro m
   induction m with
   |zero=>exactλ_=>⟨[],rfl,by simp⟩
   | succ m ih=>
    intro hm;obtain⟨xs,hx,hxs⟩:=ih (by omega);obtain⟨y,vs,hy,hd,hcs⟩:=each m (by omega);refine⟨xs++[y],by simp[hx],λi z hz=>?_⟩
    by_cases hi:i<m
    ·rw[m9 (by omega)] at hz;exact hxs i z hz
    ·rw[p7 (by omega),hx] at hz;have:i=m:=by
      have:=(g7.1 hz).1
      simp at this;omega
     subst this
     simp at hz
     subst hz;exact⟨hy,vs,hd,hcs⟩
  obtain⟨xs,hxl,hxs⟩:=all len (n5 _);refine⟨xs,⟨by omega,λy hy=>?_⟩,?_,trivial⟩
  ·obtain⟨i,hi⟩:=List.getElem?_of_mem hy;exact(hxs i y hi).1
  ·by_cases h0:cap=0
   ·have:len=0:=by omega
    subst this;subst h0;have:xs=[]:=y7 hxl;subst this;exact .e0 _ a
   ·have hspot:a.spot=none:=by
     obtain⟨hs1,hs2⟩:=hsp rfl;have key:∃vs,w.cells? 0 (a.add (0*P.cellsOf e)) (P.cellsOf e)=some vs:=by
      by_cases hl0:0<len
      ·obtain⟨_,vs,_,_,h⟩:=each 0 hl0;exact⟨vs,h⟩
      ·have h1:=hs2 0 (by omega);rw[g9 (by omega)] at h1;obtain⟨vs,h2,_⟩:=aE7.1 h1;have:len=0:=by omega
       subst this;exact⟨vs,by simpa using h2⟩
     obtain⟨vs,hvs⟩:=key;obtain⟨g1,g2⟩:=aRg hvs;have g3:=g2 0 hk0;rw[g9 (by omega)] at g3;have:=World.cell?_spot g3
     simpa[Addr.add] using this
    obtain⟨b,o,spot⟩:=a;simp only at hspot;subst hspot;have hxl':len=(xs.map enc).length:=by simp[hxl]
    rw[hxl'];refine .sl _ _ b o cap (λi j=>(w.cell? ⟨b,o+(i*P.cellsOf e+j),none⟩).getD undef) (λr hr=>?_) (by rw[<-hxl'];exact hl) hm (λi j hi hj=>?_) (λi j hi hj=>?_)
    ·obtain⟨y,_,rfl⟩:=l5.1 hr;exact hk y
    ·rw[<-hxl'] at hi;obtain⟨_,vs,hd,hcs⟩:=hxs i _ (g9 (by omega));obtain⟨g1,g2⟩:=aRg hcs;have g3:=g2 j hj;rw[g9 (by omega)] at g3;have e1:(((⟨b,o,none⟩:Addr).add (i*P.cellsOf e)).add j)=⟨b,o+(i*P.cellsOf e+j),none⟩:=by
      rw[Addr.add_lit,Addr.add_lit,Nat.add_assoc]
     rw[e1] at g3;exact⟨by simp[g3],hX _ _⟩
    ·rw[<-hxl'] at hi;have hix:i<xs.length:=by omega
     obtain⟨_,vs,hd,hcs⟩:=hxs i _ (g9 hix);obtain⟨g1,g2⟩:=aRg hcs;have g3:=g2 j hj;have e1:(((⟨b,o,none⟩:Addr).add (i*P.cellsOf e)).add j)=⟨b,o+(i*P.cellsOf e+j),none⟩:=by
      rw[Addr.add_lit,Addr.add_lit,Nat.add_assoc]
     rw[e1] at g3;have hjy:j<(enc xs[i]).length:=by rw[hk];exact hj
     obtain⟨q,hq,hdq⟩:=hd.get (g9 hjy);rw[hq] at g3;have e2:((xs.map enc).getD i []).getD j (.lit undef)=(enc xs[i])[j]:=by
      simp[List.getD,g9 hix,g9 hjy]
     rw[e2];simp only[g3,u7];exact hdq
theorem dU{w:World}{X:aR}{ds1 ds2:List D}{cs:List Value}{o k:Nat}(h1:DRs w X ds1 ((cs.drop o).take k))(h2:DRs w X ds2 (cs.drop (o+k))):DRs w X (ds1++ds2) (cs.drop o):=by
 have:=h1.append h2;rw[<-List.drop_drop,List.take_append_drop] at this;exact this
theorem aIc{w:World}{X:aR}{cs:List Value}{n:Nat}(h:cs.length=n):DRs w X [] (cs.drop n):=by
 rw[List.drop_of_length_le (by omega)];trivial
end
theorem Keeps.below[Mode]{w w':World}(h:Keeps (fJ []) w w'):RowKit.Below w.heap.size w w':=
 ⟨h.os,h.tape,h.output,h.size,λb hb=>h.block b hb λo ⟨m,hm,_⟩=>by simp at hm⟩
theorem aVp{H:Type}{eh:TypeId×Value->H}{P:Program}(hl:laidOutB P=true){W W':World}(hb:RowKit.Below W.heap.size W W'):
  ∀ {ts:List TypeId} {vs:List Value} {ds:List (DataW H)} {ps:List MemPlace},(ts.all λt=>P.readableRec t&&decide (t<P.types.size))=true->(∀x∈ps,x.block<W.heap.size)->
   DataW.TrodAll eh P W 0 (λ_=>true) true ts vs ds ps->DataW.TrodAll eh P W' 0 (λb=>decide (b<W.heap.size)) true ts vs ds ps
 |[],[],[],_,_,_,h=>h
 | t::ts,v::vs,d::ds,ps,ht,hlt,h=>by
  obtain⟨p,q,h1,h2,rfl⟩:=h;simp only[aA9,f4,l9] at ht;exact⟨p,q,RowKit.Below.trod hl ht.1.1 ht.1.2 h1 hb λx hx=>hlt x (i6.2 (.inl hx)),aVp hl hb ht.2 (λx hx=>hlt x (i6.2 (.inr hx))) h2,rfl⟩
 |[],_::_,_,_,_,_,h=>h.elim
 |[],[],_::_,_,_,_,h=>h.elim
 |_::_,[],_,_,_,_,h=>h.elim
 |_::_,_::_,[],_,_,_,h=>h.elim
theorem cAz{P:Program}{f:Func}{s:ChangeSpec}{tb:TypeId}(hl:laidOutB P=true)(hres:f.resultTypes= #[tb])(htb:P.underlying tb=some .bool)(hvars:s.vars=[])
  (ht:(f.params.toList.all λt=>P.readableRec t&&decide (t<P.types.size))=true)
  {H:Type}{eh:TypeId×Value->H}{W W':World}{args:Array Value}{ds gs:List (DataW H)}{before:List MemPlace}(hW:DataW.Whole eh P f.params.toList s.vars false W args.toList ds gs before)
  (hb:RowKit.Below W.heap.size W W')(hfn:s.fn H (ds++gs)={results:=[.lit (.bool true)],args:=ds}):s.post eh P f false true false false W args (.bool true) W':=by
 have hlt:=hW.lt;have hW0:=hW;obtain⟨p,q,hA,hV,rfl,hfz,hnd⟩:=hW;rw[hvars] at hV;obtain⟨rfl,rfl⟩:=trodVars_none hV;refine⟨ds,[],p++[],[],p,[],hW0,?_,?_,?_,?_,λh=>by cases h⟩
 ·rw[hres,hfn];exact trodAll_cons_mk (shut_bool htb _) trodAll_mk0
 ·rw[hfn];exact aVp hl hb ht (λx hx=>hlt x (by simpa using hx)) hA
 ·rw[hfn,hvars];rfl
 ·exact hb.frame _
section
variable{P:Program}{W:World}{X:aR}{r:Reach}{base:Nat}{t:TypeId}{v:Value}{H:Type}{eh:TypeId×Value->H}{d:DataW H}{p:List MemPlace}{α:Type}{ok:α->Prop}
theorem cNy{e:TypeId}{k:Nat}{enc:α->List D}{ok:List α->Prop}(ht:P.underlying t=some (.slice e))(hr:Rd P t (λxs:List α=>[.sl k (xs.map enc)]) ok)(hv:Value.okWide P W r base t v)
  (h:DataW.Trod eh P W 0 (λ_=>true) true t v d p)(hX:∀b o,¬X b o):∃xs,ok xs/\VR W X (.d (.sl k (xs.map enc))) v:=by
 obtain⟨fuel,h⟩:=h;obtain⟨xs,h1,h2⟩:=hr H eh W X hX fuel _ _ h;refine⟨xs,h1,?_⟩;have hc:v.cells.toList=[v]:=by
  simp only[Value.okWide,ht,Cell.okWide,Cell.ok] at hv;split at hv<;>first|rfl|(simp_all[Cell.ok];done)|(cases v<;>simp_all[Cell.ok,Value.cells])
 rw[hc] at h2;exact .d h2.1
theorem cMd{enc:α->List D}{fs:Array Field}(ht:P.underlying t=some (.struct fs))(hr:Rd P t enc ok)(hv:Value.okWide P W r base t v)
  (h:DataW.Trod eh P W 0 (λ_=>true) true t v d p)(hX:∀b o,¬X b o):∃a,ok a/\VR W X (.agg (enc a)) v:=by
 obtain⟨fuel,h⟩:=h;obtain⟨xs,h1,h2⟩:=hr H eh W X hX fuel _ _ h;refine⟨xs,h1,?_⟩;simp only[Value.okWide,ht] at hv;obtain⟨cs,rfl,_⟩:=hv;exact .agg h2
theorem bVn[Mode]{f:FuncId}{fn:Func}{s:ChangeSpec}{tb:TypeId}(hl:laidOutB P=true)(hres:fn.resultTypes= #[tb])(htb:P.underlying tb=some .bool)(hvars:s.vars=[])
  (ht:(fn.params.toList.all λt=>P.readableRec t&&decide (t<P.types.size))=true){args:Array Value}{ds gs:List (DataW H)}{before:List MemPlace}(hW:DataW.Whole eh P fn.params.toList s.vars false W args.toList ds gs before)
  (hfn:s.fn H (ds++gs)={results:=[.lit (.bool true)],args:=ds}){avs:List AV}(hf:Fn P f avs (.b true))(hv:VRs W (aU (λ_ _=>False) []) avs args.toList)(hamb:Amb W (aU (λ_ _=>False) [])):
  Calls P f args W λe W'=>∃v,e=.returned v/\s.post eh P fn false true false false W args v W':=by
 refine(hf (λ_ _=>False) W args.toList ⟨by simp[Sep],by simp,by simp,hamb⟩ (λ_ _ h=>h.elim) hv).mono ?_;rintro e w' ⟨v,r',objs',rfl,hk,hinv,hr,hnew,rfl,rfl⟩;have:=hr.lit;subst this;exact⟨_,rfl,cAz hl hres htb hvars ht hW hk.below hfn⟩
theorem aTr(b o:Nat):¬aU (λ_ _=>False) [] b o:=by
 rintro(h|⟨m,hm,_⟩)
 ·exact h
 ·simp at hm
end
end Go.Am
end
