/- The program logic 'Am': stores into slices, make, parts, calls, freezing. -/
import Derived.Test.YtiohgpipanopaaaGreatAmMem3
namespace Go.Am
theorem bDt{k:Nat}:∀{rows:List (List D)} {i:Nat} {ds:List D},(∀r∈rows,r.length=k)->rows[i]?=some ds->∀{c:Nat} {es:List D},c+es.length<=k->
  (rows.set i (gD ds c es)).flatten=gD rows.flatten (i*k+c) es
 |[],i,ds,_,h,c,es,_=>by simp at h
 | r::rows,0,ds,hk,h,c,es,hc=>by
  simp at h;subst h
  have hr:=hk r (by simp);simp only[List.set_cons_zero,List.flatten_cons,Nat.zero_mul,Nat.zero_add,gD];rw[List.take_append_of_le_length (by omega),List.drop_append_of_le_length (by omega)]
  simp[List.append_assoc]
 | r::rows,i+1,ds,hk,h,c,es,hc=>by
  have hr:=hk r (by simp);have ih:=bDt (rows:=rows) (i:=i) (ds:=ds) (λx hx=>hk x (List.mem_cons_of_mem _ hx)) (by simpa using h) hc;simp only[List.set_cons_succ,List.flatten_cons,gD];rw[show(i+1)*k+c=r.length+(i*k+c) by rw[Nat.succ_mul,hr];omega];rw[show r.length+(i*k+c)+es.length=r.length+(i*k+c+es.length) by omega];have h1:(r++rows.flatten).take (r.length+(i*k+c))=r++rows.flatten.take (i*k+c):=by simp[List.take_append,List.take_of_length_le]
  have h2:(r++rows.flatten).drop (r.length+(i*k+c+es.length))=rows.flatten.drop (i*k+c+es.length):=by simp[List.drop_append]
  rw[h1,h2];simp only[gD] at ih;simp only[List.append_assoc] at ih|-;rw[ih]
theorem bHd{k:Nat}{rows:List (List D)}{i:Nat}{es:List D}(h:∀r∈rows,r.length=k)(he:es.length=k):∀r∈rows.set i es,r.length=k:=by
 intro r hr
 rcases List.mem_or_eq_of_mem_set hr with h1|rfl
 ·exact h r h1
 ·exact he
section
variable{P:Program}{n d:Nat}{st:St}{o:Oper}
theorem vH{x y:Operand}{t m i c l k e:Nat}{u:Value}{rows rows':List (List D)}{ds es:List D}{v:AV}{ty:TypeId}{pos:String}{af:Array Edge}{gd:Option (Nat×Bool)}
  (hx:st.eval x=.ep u k i c)(ho:st.objs[l]?=some (.arr u e k rows))(hi:rows[i]?=some ds)(hy:st.eval y=v)(hk:cT y=true)(hv:v.cells=some es)(ht:∀w,(sizeOf t).run P w=.ok m w)
  (hm:es.length=m)(hm0:0<m)(hj:c+es.length<=ds.length)(hrows:rows.set i (gD ds c es)=rows'):
  bB P n ⟨none,.store t x y,ty,pos,af,gd⟩ st (st.put1 l (.arr u e k rows')):=by
 intro A M w0 a w hR K Q hK;have hkx:cT x=true:=by cases x with|const u=>cases hx|_=>rfl
 have h:=hR.eval' hkx;rw[hx] at h;have hyv:=hR.eval' hk;rw[hy] at hyv;have hes:=hyv.cells hv;have hle:=hes.length;have hsz:(a.eval y).cells.size=m:=by rw[<-Array.length_toList,hle,hm]
 generalize hpt:a.eval x=px at h
 cases h with
 | ep g len cap=>
  obtain⟨xs,hxs,hown,hr⟩:=hR.inv.holds _ (List.mem_of_getElem? ho);obtain⟨xs',hxs',hc,_⟩:=aOk (hR.inv.holds _ (List.mem_of_getElem? ho))
  rcases hown.2 with⟨h0,_⟩|⟨g',cap',cur,heq,hg1,hg2,hg3,hg4,hg5,hg6⟩
  ·cases h0
  ·obtain⟨h1,h2,h3⟩:g=g'/\len=rows.length/\cap=cap':=by simpa using heq
   subst h1;subst h2;subst h3;have hdk:ds.length=k:=hr _ (List.mem_of_getElem? hi);have hil:i<rows.length:=(List.getElem?_eq_some_iff.1 hi).1;have hfl:=qC hr;have hend:i*k+c+es.length<=rows.flatten.length:=by
    rw[hfl];have:(i+1)*k<=rows.length*k:=Nat.mul_le_mul_right _ hil;rw[Nat.succ_mul] at this
    omega
   have hl2:=hxs.length;have hcs:rows.length*k<=cur.size:=by rw[hg5];exact Nat.mul_le_mul_right _ hg3
   have hcell:∀j,j<cur.size->w.cell? ⟨g,j,none⟩=cur[j]?:=λj _=>cell_of_row w g j cur e (0,0) hg2;have hst:=aBy (P:=P) ht (w:=w) (b:=g) (o:=i*k+c) hsz (λq hq=>by rw[hcell _ (by omega),Array.getElem?_eq_getElem (by omega)];rfl)
    (λq hq=>frozen_of_row w g _ cur e hg2) hes.oneCell
   unfold Oper.wp;have hrun:(execOp a.eval ⟨none,.store t x y,ty,pos,af,gd⟩).run P w=.ok .skip (w.setCells g (i*k+c) (a.eval y).cells.toList):=by
    simp[execOp,hpt,hst]
   rw[hrun,Oper.upon_skip];refine hK _ _ _ rfl ?_;subst hrows;have hne:(a.eval y).cells.toList≠[]:=by intro h0;rw[h0] at hle;simp at hle;omega
   have hcx:cellsAt w g 0 xs:=by
    intro j v hjv;have:=hown.cells (g:=g) rfl j v hjv
    rwa[Addr.add_lit] at this
   have hrow:∀(vs:List Value) (off:Nat) (w:World) (cur:Array Value),w.heap[g]?=some (.cells cur e (0,0))->∃cur',(w.setCells g off vs).heap[g]?=some (.cells cur' e (0,0))/\cur'.size=cur.size:=by
    intro vs
    induction vs with
    |nil=>exactλoff w cur hh=>⟨cur,hh,rfl⟩
    | cons v vs ih=>
     intro off w cur hh;obtain⟨cur',h1,h2⟩:=ih (off+1) (w.setCell ⟨g,off,none⟩ v) _ (heap_setCell_same w g off cur e v hh);exact⟨cur',h1,by simpa using h2⟩
   have hR':=hR.replace (w':=w.setCells g (i*k+c) (a.eval y).cells.toList) (m':=.arr (.slice (some ⟨g,0,none⟩) rows.length cap) e k (rows.set i (gD ds c es))) ho
    (Keeps.setCells w g (i*k+c) _ (Z:=λb _=>b=g) (λq h1 h2=>rfl) hne)
    (λb o hb=>by subst hb;rfl) (λb o hf=>.inl (by simpa[MO.foot,Value.ownBlock] using hf)) λhmono=>by
     have hp:=aRz (b:=g) (o:=0) (j:=i*k+c) hxs hcx hes hend (by simpa using hmono);simp only[Nat.zero_add] at hp;obtain⟨vs',h1,h2⟩:=hp;obtain⟨cur',hc1,hc2⟩:=hrow (a.eval y).cells.toList (i*k+c) w cur hg2;have hvl:=h1.length;rw[aBm hend,hfl] at hvl;refine⟨vs',by rw[bDt hr hi (by omega)];exact h1,⟨by simp[hvl],.inr ⟨g,cap,cur',by simp,hg1,hc1,by simpa using hg3,hg4,by rw[hc2,hg5],?_⟩⟩,bHd hr (by rw[aBm hj,hdk])⟩;simp only[List.length_set];apply List.ext_getElem?;intro q;rw[List.getElem?_take]
     split
     ·rename_i hq
      have hq':q<vs'.length:=by omega
      have:=h2 q _ (List.getElem?_eq_getElem hq');rw[Nat.zero_add,cell_of_row _ g q cur' e (0,0) hc1] at this;rw[List.getElem?_eq_getElem hq',<-this]
      simp
     ·rw[List.getElem?_eq_none (by omega)]
   exact hR'.put_none rfl
def mk{α:Type}(bytes:Nat)(m:Int)(z:α):Option (List α):=if 0<=m/\m*bytes<=140737488355328 then some (List.replicate m.toNat z) else none
theorem bIn{α:Type}{bytes:Nat}{m:Int}{z:α}{l:List α}(h:mk bytes m z=some l):0<=m/\m*bytes<=140737488355328/\l=List.replicate m.toNat z:=by
 unfold mk at h;split at h
 ·rename_i hc;cases h;exact⟨hc.1,hc.2,rfl⟩
 ·cases h
theorem bOc(zs:List Value)(hz:0<zs.length):∀(m:Nat),(madeCells zs.toArray (m*zs.length)).toList=(List.replicate m zs).flatten:=by
 intro m;apply List.ext_getElem?;intro i;simp only[madeCells,Array.toList_map,Array.toList_range,List.getElem?_map];have hfl:(List.replicate m zs).flatten.length=m*zs.length:=by simp
 by_cases hi:i<m*zs.length
 ·rw [List.getElem?_range hi];have h1:i/zs.length<m:=by rw[Nat.div_lt_iff_lt_mul hz];exact hi
  have h2:i % zs.length<zs.length:=Nat.mod_lt _ hz;have h3:i/zs.length*zs.length+i % zs.length=i:=by rw[Nat.mul_comm];exact Nat.div_add_mod i _
  have key:∀(m q r:Nat),q<m->r<zs.length->(List.replicate m zs).flatten[q*zs.length+r]?=zs[r]?:=by
   intro m
   induction m with
   |zero=>intro q r h;omega
   | succ m ih=>
    intro q r hq hr;rw[List.replicate_succ,List.flatten_cons];cases q with
    |zero=>rw[Nat.zero_mul,Nat.zero_add,List.getElem?_append_left hr]
    | succ q=>
     rw[List.getElem?_append_right (by rw[Nat.succ_mul];omega),show(q+1)*zs.length+r-zs.length=q*zs.length+r by rw[Nat.succ_mul];omega];exact ih q r (by omega) hr
  have:=key m _ _ h1 h2;rw[h3] at this;rw[this]
  simp[h2]
 ·rw[List.getElem?_eq_none (by simp;omega),List.getElem?_eq_none (by omega)]
  rfl
theorem aNm{w:World}{X:bH}{zs:List D}{vs:List Value}(h:DRs w X zs vs):∀m,DRs w X (List.replicate m zs).flatten (List.replicate m vs).flatten
 |0=>trivial
 |m+1=>by simpa[List.replicate_succ] using h.append (aNm h m)
theorem bFw{t e k bytes:Nat}{z:Value}{zs:List D}{x y:Operand}{k1 k2:IntKind}{m:Int}{rows:List (List D)}{ty:TypeId}{pos:String}{af:Array Edge}{gd:Option (Nat×Bool)}(hd:d<n)(ht:SliceTy P t e k bytes z)
  (hx:st.eval x=.d (.lit (.int k1 m)))(hy:st.eval y=.d (.lit (.int k2 m)))(hz:z.cells=(zs.map bA).toArray)(hok:zOK zs=true)(hm:mk bytes m zs=some rows)(hby:0<bytes):
  Step P n ⟨some d,.makeSlice t x y,ty,pos,af,gd⟩ st (λs=>∃v,s=(st.setadd d (.d (.lit v)) (.arr v e k rows))):=by
 intro A M w0 a w hR K Q hK;obtain⟨h0,hb,rfl⟩:=bIn hm;obtain⟨inf,hi,hzi,hs,hbs⟩:=ht.inf;subst hs;subst hbs;have hzl:zs.length=inf.size:=by have:=ht.size;rw[hz] at this;simpa using this
 have hm63:m<=140737488355328:=by
  have:m*1<=m*(inf.bytes:Int):=Int.mul_le_mul_of_nonneg_left (by omega) h0
  omega
 have hr:=run_make (P:=P) w t e inf z ht.und hi hzi k1 k2 m m h0 (Int.le_refl _) (by rw[Int.mul_comm];omega) (by omega);have hcells:madeCells z.cells (m.toNat*inf.size)=((List.replicate m.toNat (zs.map bA)).flatten).toArray:=by
  apply Array.ext';have:=bOc (zs.map bA) (by simp[hzl];exact ht.pos) m.toNat;simp only[List.length_map,hzl] at this;rw[hz,this]
 rw[hcells] at hr;unfold Oper.wp;have hrun:(execOp a.eval ⟨some d,.makeSlice t x y,ty,pos,af,gd⟩).run P w=.ok (.value (.slice (some ⟨w.heap.size,0,none⟩) m.toNat m.toNat)) (w.alloc (.cells ((List.replicate m.toNat (zs.map bA)).flatten).toArray e)):=by
  simp[execOp,hR.lit hx,hR.lit hy,hr]
 rw[hrun,Oper.upon_value];refine hK _ _ _ ⟨.slice (some ⟨w.heap.size,0,none⟩) m.toNat m.toNat,rfl⟩ ?_;have hk:∀r∈List.replicate m.toNat zs,r.length=inf.size:=λr hr=>by rw[(List.mem_replicate.1 hr).2,hzl]
 have hR':=hR.add (w':=w.alloc (.cells ((List.replicate m.toNat (zs.map bA)).flatten).toArray e)) (m:=.arr (.slice (some ⟨w.heap.size,0,none⟩) m.toNat m.toNat) e inf.size (List.replicate m.toNat zs)) (Keeps.alloc _ _ _)
  (λb o hf=>by simp[MO.foot,Value.ownBlock] at hf;omega)
  (λhmo=>by
   have hds:=(aNm (aDj (w:=w) (X:=bF A st.objs) hok) m.toNat).mono hmo;have hl:=hds.length;rw[qC hk,List.length_replicate] at hl;refine⟨_,hds,⟨by simpa using hl,.inr ⟨w.heap.size,m.toNat,_,by simp,Nat.zero_le _,heap_alloc_new w _,by simp,by simp only[maxLen];omega,?_,?_⟩⟩,hk⟩
   ·simpa using hl
   ·rw[List.length_replicate,<-hl];exact List.take_length)
 exact hR'.put (o:=⟨some d,.makeSlice t x y,ty,pos,af,gd⟩) rfl hd (.of_lit rfl)
def sub{α:Type}(xs:List α)(lo hi:Int):Option (List α):=if 0<=lo/\lo<=hi/\hi<=xs.length then some ((xs.take hi.toNat).drop lo.toNat) else none
theorem bGd{α:Type}{xs ys:List α}{lo hi:Int}(h:sub xs lo hi=some ys):0<=lo/\lo<=hi/\hi<=xs.length/\ys=(xs.take hi.toNat).drop lo.toNat:=by
 unfold sub at h;split at h
 ·rename_i hc;cases h;exact⟨hc.1,hc.2.1,hc.2.2,rfl⟩
 ·cases h
theorem bWw{α β:Type}(f:α->β){xs ys:List α}{lo hi:Int}(h:sub xs lo hi=some ys):sub (xs.map f) lo hi=some (ys.map f):=by
 obtain⟨h1,h2,h3,rfl⟩:=bGd h
 simp[sub,h1,h2,h3,List.map_take,List.map_drop]
theorem DR.part{w:World}{X:bH}{k:Nat}{rows:List (List D)}{v:Value}(h:DR w X (.sl k rows) v){l m:Nat}(hlm:l<=m)(hm:m<=rows.length):
  ∃a c,v=.slice a rows.length c/\rows.length<=c/\∀m',m<=m'->m'<=c->DR w X (.sl k ((rows.take m).drop l)) (.slice (if m'=l then a else a.map (·.add (l*k))) (m-l) (m'-l)):=by
 cases h with
 | nil=>
  refine⟨none,0,rfl,Nat.le_refl _,λm' h1 h2=>?_⟩;simp only[List.length_nil,Nat.le_zero] at hm h2;subst hm;subst h2;have hl0:l=0:=by omega
  subst hl0
  simp
  exact .nil k
 | e0 _ a=>
  refine⟨some a,0,rfl,Nat.le_refl _,λm' h1 h2=>?_⟩;simp only[List.length_nil,Nat.le_zero] at hm h2;subst hm;subst h2;have hl0:l=0:=by omega
  subst hl0
  simp
  exact .e0 k a
 | sl _ _ b o cap f hk hcap hmax hc hr=>
  refine⟨some ⟨b,o,none⟩,cap,rfl,hcap,λm' h1 h2=>?_⟩;have hlen:((rows.take m).drop l).length=m-l:=by simp;omega
  have key:∀o',(m=l\/o'=o+l*k)->DR w X (.sl k ((rows.take m).drop l)) (.slice (some ⟨b,o',none⟩) (m-l) (m'-l)):=by
   intro o' ho';rw[<-hlen];refine .sl k _ b o' _ (λi j=>f (l+i) j) (λr hr=>hk r (List.mem_of_mem_take (List.mem_of_mem_drop hr))) (by omega) (by omega) (λi j hi hj=>?_) (λi j hi hj=>?_)
   ·rw[hlen] at hi
    rcases ho' with h0|rfl
    ·omega
    ·have:=hc (l+i) j (by omega) hj;rw[show o+l*k+(i*k+j)=o+((l+i)*k+j) by rw[Nat.add_mul];omega];exact this
   ·rw[hlen] at hi;have:=hr (l+i) j (by omega) hj;have e:((rows.take m).drop l).getD i []=rows.getD (l+i) []:=by
     simp only[List.getD,List.getElem?_drop];rw[List.getElem?_take,if_pos (by omega)]
    rw[e];exact this
  split
  ·rename_i hml
   exact key o (.inl (by omega))
  ·have:=key (o+l*k) (.inr rfl)
   simpa[Addr.add_lit] using this
def aAf(st:St):Option Operand->Int->Option Int
 |none,z=>some z
 |some x,_=>match st.eval x with| .d (.lit (.int _ p))=>some p|_=>none
theorem aFv{x:Operand}{t e k:Nat}{lo hi:Option Operand}{rows es:List (List D)}{p q:Int}{ty:TypeId}{pos:String}{af:Array Edge}{gd:Option (Nat×Bool)}(hd:d<n)(ht:gU P t e k)
  (hx:st.eval x=.d (.sl k rows))(hlo:aAf st lo 0=some p)(hhi:aAf st hi rows.length=some q)(hs:sub rows p q=some es):
  bB P n ⟨some d,.slice t x lo hi none,ty,pos,af,gd⟩ st (st.set d (.d (.sl k es))):=
 cO rfl hd λA M w0 a w hR=>by
  have hk:cT x=true:=by cases x with|const u=>cases hx|_=>rfl
  have h:=hR.eval' hk;rw[hx] at h
  generalize hu:a.eval x=u at h
  obtain⟨h1,h2,h3,rfl⟩:=bGd hs;cases h with
  | d h=>
   obtain⟨ad,c,rfl,hcap,hp⟩:=h.part (l:=p.toNat) (m:=q.toNat) (by omega) (by omega);have hfin:=hp c (by omega) (Nat.le_refl _);refine⟨_,?_,.d hfin⟩;have b1:lo=none/\p=0\/∃y kd,lo=some y/\a.eval y=.int kd p:=by
    cases lo with
    |none=>left;simp only[aAf,Option.some.injEq] at hlo;exact⟨rfl,hlo.symm⟩
    | some y=>
     right
     simp only[aAf] at hlo;split at hlo
     ·rename_i kd p' he;cases hlo;exact⟨y,kd,rfl,hR.lit he⟩
     ·cases hlo
   have b2:hi=none/\q=rows.length\/∃y kd,hi=some y/\a.eval y=.int kd q:=by
    cases hi with
    |none=>left;simp only[aAf,Option.some.injEq] at hhi;exact⟨rfl,hhi.symm⟩
    | some y=>
     right
     simp only[aAf] at hhi;split at hhi
     ·rename_i kd p' he;cases hhi;exact⟨y,kd,rfl,hR.lit he⟩
     ·cases hhi
   have e1:(Instr.sliceBounds true rows.length c (lo.map a.eval) (hi.map a.eval) none).run P w=.ok (p.toNat,q.toNat,c) w:=by
    rcases b1 with⟨rfl,rfl⟩|⟨y,kd,rfl,hy⟩<;>rcases b2 with⟨rfl,rfl⟩|⟨y',kd',rfl,hy'⟩
    ·simp[Instr.sliceBounds]
    ·simp[Instr.sliceBounds,Instr.sliceBound,asIntOf,hy',show 0<=q by omega,show q<=(c:Int) by omega]
    ·simp[Instr.sliceBounds,Instr.sliceBound,asIntOf,hy,h1,show p<=(rows.length:Int) by omega]
    ·simp[Instr.sliceBounds,Instr.sliceBound,asIntOf,hy',hy,h1,show 0<=q by omega,show q<=(c:Int) by omega]
     intro h0
     omega
   simp[execOp,Instr.sliceAt,Instr.slice,ht.1,ht.2,hu,e1]
end
inductive DV(fs:List MO):D->D->Prop where
 |same (x:D):DV fs x x
 |nil (k:Nat):DV fs (.lit (.slice none 0 0)) (.sl k [])
 |weak (k:Nat) (rows:List (List D)):DV fs (.sn k rows) (.sl k rows)
 |arrn (v:Value) (e k:Nat) (rows rows':List (List D)) (hn:v≠.slice none 0 0) (hm:DV fs (.lit v) (.sl k rows')):DV fs (.lit v) (.sn k rows')
 | arr (v:Value) (e k:Nat) (rows rows':List (List D)) (hm:MO.arr v e k rows∈fs) (hl:rows'.length=rows.length) (hk:∀r∈rows',r.length=k)
   (h:∀i j,i<rows.length->j<k->DV fs ((rows.getD i []).getD j (.lit undef)) ((rows'.getD i []).getD j (.lit undef))):DV fs (.lit v) (.sl k rows')
 | map (r:Nat) (bs:List Nat) (ck:Nat) (agg:Bool) (es:List (Value×List D)) (h1:agg=false->∀e∈es,e.2.length=1)
   (hm:MO.map r (es.map λe=>(e.1,bif agg then .agg e.2 else .d (e.2.getD 0 (.lit undef)))) bs ck∈fs):DV fs (.lit (.map (some r))) (.mp agg es)
 |box (b o:Nat) (ds es:List D) (hm:MO.box b o ds∈fs) (hl:es.length=ds.length) (h:∀j,j<ds.length->DV fs (ds.getD j (.lit undef)) (es.getD j (.lit undef))):DV fs (.lit (.pointer (some ⟨b,o,none⟩))) (.pt es)
 |nest (v0:Value) (e0 e k:Nat) (vs:List Value) (rss:List (List (List D))) (ho:MO.arr v0 e0 1 (vs.map λv=>[.lit v])∈fs) (hf:MO.fam e k vs rss∈fs):DV fs (.lit v0) (.sl 1 (rss.map λrows=>[.sl k rows]))
def DVs(fs:List MO):List D->List D->Prop
 |[],[]=>True
 |x::xs,y::ys=>DV fs x y/\DVs fs xs ys
 |_,_=>False
inductive BV(fs:List MO):AV->AV->Prop where
 |same (x:AV):BV fs x x
 |any (x:AV):BV fs x .any
 |d {x y:D} (h:DV fs x y):BV fs (.d x) (.d y)
 |fl (nn:Bool) (k:Nat) (rows:List (List D)):BV fs (.fl nn k rows) (.d (.sl k rows))
 |fln (k:Nat) (rows:List (List D)):BV fs (.fl true k rows) (.d (.sn k rows))
 |agg {xs ys:List D} (h:DVs fs xs ys):BV fs (.agg xs) (.agg ys)
 |ptc (xs:List D):BV fs (.d (.pt xs)) (.cp xs)
 |cpt (xs:List D):BV fs (.cp xs) (.d (.pt xs))
 |bp (b o j:Nat) (ds es:List D) (hm:MO.box b o ds∈fs) (hj:j<=ds.length) (h:DVs fs (ds.drop j) es):BV fs (.bp b o j) (.cp es)
 |fn (f:FuncId) (caps caps':List AV) (hl:caps'.length=caps.length) (h:∀i,i<caps.length->BV fs (caps.getD i .any) (caps'.getD i .any)):BV fs (.fn f caps) (.fn f caps')
 |tup (caps caps':List AV) (hl:caps'.length=caps.length) (h:∀i,i<caps.length->BV fs (caps.getD i .any) (caps'.getD i .any)):BV fs (.tup caps) (.tup caps')
theorem aLh{w:World}{X X':bH}{v:Value}{e k:Nat}{rows rows':List (List D)}(h:aLg w X v e k rows)(ha:∀b o,v.ownBlock=some b->¬X' b o)(hl:rows'.length=rows.length)(hk:∀r∈rows',r.length=k)
  (hd:∀i j (_:i<rows.length) (_:j<k) (q:Value),DR w X ((rows.getD i []).getD j (.lit undef)) q->DR w X' ((rows'.getD i []).getD j (.lit undef)) q):DR w X' (.sl k rows') v:=by
 obtain⟨xs,hxs,hown,hr⟩:=h
 rcases hown.2 with⟨rfl,hn⟩|⟨g,cap,cur,rfl,_,hg,hnc,hmax,hcs,ht⟩
 ·have:rows'=[]:=List.eq_nil_of_length_eq_zero (by omega);subst this;exact .nil k
 ·rw[<-hl];have hcell:∀i j,i<rows.length->j<k->∃q,w.cell? ⟨g,0+(i*k+j),none⟩=some q/\DR w X ((rows.getD i []).getD j (.lit undef)) q:=by
   intro i j hi hj;have hj':j<rows[i].length:=by rw[hr _ (List.getElem_mem hi)];exact hj
   have hgt:=aGr hr (List.getElem?_eq_getElem hi) hj;rw[List.getElem?_eq_getElem hj'] at hgt;obtain⟨q,hq,hdq⟩:=hxs.get hgt;refine⟨q,?_,by simpa[List.getD,List.getElem?_eq_getElem hi,List.getElem?_eq_getElem hj'] using hdq⟩;have:=hown.cells (g:=g) rfl _ _ hq
   rwa[Addr.add_lit] at this
  refine .sl k rows' g 0 cap (λi j=>(w.cell? ⟨g,0+(i*k+j),none⟩).getD undef) hk (by omega) hmax (λi j hi hj=>?_) (λi j hi hj=>?_)
  ·obtain⟨q,hq,_⟩:=hcell i j (by omega) hj;exact⟨by simp only[hq,Option.getD_some],ha g _ rfl⟩
  ·obtain⟨q,hq,hdq⟩:=hcell i j (by omega) hj;simp only[hq,Option.getD_some];exact hd i j (by omega) hj q hdq
theorem MRs.get'{w:World}{X:bH}:∀{es:List (Value×AV)} {ms:List MapEntry},MRs w X es ms->ms.map (·.key)=es.map (·.1)/\∀{j:Nat} {e:Value×AV},es[j]?=some e->∃m,ms[j]?=some m/\VR w X e.2 m.val
 |[],[],_=>⟨rfl,λh=>by simp at h⟩
 | (_,_)::es,m::ms,h=>by
  obtain⟨h1,h2⟩:=MRs.get' h.2.2;refine⟨by simp[h.1,h1],λ{j} {e} he=>?_⟩;cases j with
  |zero=>simp at he;subst he;exact⟨m,rfl,h.2.1⟩
  |succ j=>simpa using h2 (by simpa using he)
theorem bKz{w:World}{X X':bH}{r ck:Nat}{ms:Array MapEntry}(agg:Bool)(es:List (Value×List D))(hh:w.heap[r]?=some (.map ms ck))(hx:∀o,¬X' r o)
  (hms:MRs w X (es.map λe=>(e.1,bif agg then .agg e.2 else .d (e.2.getD 0 (.lit undef)))) ms.toList)(hp:(ms.toList.map (·.born)).Pairwise (·<·))(hc:∀b∈ms.toList.map (·.born),b<ck)
  (h1:agg=false->∀e∈es,e.2.length=1)(hm:Mono w X w X'):DR w X' (.mp agg es) (.map (some r)):=by
 obtain⟨hk,hg⟩:=hms.get';have cells:∀(m:MapEntry) (e:Value×List D),VR w X (bif agg then .agg e.2 else .d (e.2.getD 0 (.lit undef))) m.val->(agg=false->e.2.length=1)->
   ∃vs:List Value,DRs w X e.2 vs/\m.val=bif agg then .agg vs.toArray else vs.getD 0 undef:=by
  intro m e hv he;cases agg with
  | true=>
   simp only[cond_true] at hv|-
   generalize m.val=u at hv
   cases hv with
   |agg h=>rename_i cs;exact⟨cs.toList,h,by simp⟩
  | false=>
   simp only[cond_false] at hv|-;have hl:=he rfl
   generalize m.val=u at hv
   cases hv with
   | d h=>
    match he2:e.2,hl with
    | [d],_=>
     rw[he2] at h;exact⟨[u],⟨h,trivial⟩,rfl⟩
 have ex:∀i:Nat,∃vs:List Value,∀e:Value×List D,es[i]?=some e->DRs w X e.2 vs/\∀m:MapEntry,ms.toList[i]?=some m->m.val=bif agg then .agg vs.toArray else vs.getD 0 undef:=by
  intro i;cases hes:es[i]? with
  |none=>exact⟨[],λe h=>by cases h⟩
  | some e=>
   obtain⟨m,hm',hv⟩:=hg (j:=i) (e:=(e.1,bif agg then .agg e.2 else .d (e.2.getD 0 (.lit undef)))) (by simp[hes]);obtain⟨vs,hd,he⟩:=cells m e hv λh=>h1 h e (List.mem_of_getElem? hes);refine⟨vs,λe' h=>?_⟩;cases h;exact⟨hd,λm' h'=>by rw[hm'] at h';cases h';exact he⟩
 obtain⟨g,hgs⟩:=Classical.axiomOfChoice ex;refine .mp agg es r ck ms (λi j=>(g i).getD j undef) hh hx (by rw[hk];simp) hp hc (λi m e hi he=>?_) h1 (λi j e d he hd=>?_)
 ·obtain⟨hd,hval⟩:=hgs i e he;have hl:=hd.length;rw[hval m hi];cases agg with
  | true=>
   simp only[cond_true]
   congr 2
   refine List.ext_getElem (by simp[hl]) λq h2 h3=>?_
   simp[List.getD,h2]
  |false=>rfl
 ·obtain⟨hds,_⟩:=hgs i e he;obtain⟨v,hv,hdv⟩:=hds.get hd;have:(g i).getD j undef=v:=by simp[List.getD,hv]
  simp only[this];exact hdv.mono hm
section view
variable{w:World}{X X':bH}{fs:List MO}
theorem DV.sound(hh:∀m∈fs,m.holds w X)(hs:∀b o,X' b o->X b o)(ha:∀m∈fs,∀b o,m.foot b o->¬X' b o){x y:D}(h:DV fs x y):∀{v:Value},DR w X x v->DR w X' y v:=by
 induction h with
 |same x=>exactλh=>h.mono (Mono.sub hs)
 | nil k=>
  intro v h;cases h with
  |lit _ _=>exact .nil k
 |weak k rows=>exactλh=>(h.mono (Mono.sub hs)).weak
 | arrn v e k rows rows' hn _ ih=>
  intro u hu;refine(ih hu).strong ?_;cases hu;exact hn
 | arr v e k rows rows' hm hl hk _ ih=>
  intro u hu;cases hu with
  |lit _ _=>exact aLh (e:=e) (hh _ hm) (λb o hb=>ha _ hm b o hb) hl hk λi j hi hj q hq=>ih i j hi hj hq
 | map r bs ck agg es h1 hm=>
  intro u hu;cases hu with
  | lit _ _=>
   obtain⟨ms,hh',hms,hb1,hb2,hb3⟩:=hh _ hm;exact bKz agg es hh' (λo h=>ha _ hm r o rfl h) hms (by rw[hb1];exact hb2) (by rw[hb1];exact hb3) h1 (Mono.sub hs)
 | box b o ds es hm hl _ ih=>
  intro u hu;cases hu with
  | lit _ _=>
   obtain⟨vs,hds,hc,_⟩:=hh _ hm;have hlen:=hds.length;refine .pt es b o (λj=>vs.getD j undef) (λj hj=>⟨?_,ha _ hm _ _ ⟨rfl,by omega,by omega⟩⟩) λj d hj=>?_
   ·have hj':j<vs.length:=by omega
    rw[hc j _ (List.getElem?_eq_getElem hj')]
    simp[List.getD,List.getElem?_eq_getElem hj']
   ·have hjl:j<es.length:=(List.getElem?_eq_some_iff.1 hj).1;have hj':j<ds.length:=by omega
    obtain⟨v,hv,hdv⟩:=hds.get (List.getElem?_eq_getElem hj');have e1:vs.getD j undef=v:=by simp[List.getD,hv]
    have e2:es.getD j (.lit undef)=d:=by simp[List.getD,hj]
    have e3:ds.getD j (.lit undef)=ds[j]:=by simp[List.getD,List.getElem?_eq_getElem hj']
    have:=ih j hj' (v:=v) (by rw[e3];exact hdv);rw[e2] at this;rw[e1];exact this
 | nest v0 e0 e k vs rss ho hf=>
  intro u hu;cases hu with
  | lit _ _=>
   obtain⟨hlen,_,hfam⟩:=hh _ hf;have hsub:Mono w X w X':=Mono.sub hs;refine aLh (e:=e0) (hh _ ho) (λb o hb=>ha _ ho b o hb) (by simp[hlen]) (by simp) λi j hi hj q hq=>?_;simp only[List.length_map] at hi;have hj0:j=0:=by omega
   subst hj0;have e1:((vs.map λv=>[D.lit v]).getD i []).getD 0 (.lit undef)=.lit vs[i]:=by simp[List.getD,hi]
   have hi2:i<rss.length:=by omega
   have e2:((rss.map λrows=>[D.sl k rows]).getD i []).getD 0 (.lit undef)=.sl k rss[i]:=by simp[List.getD,hi2]
   rw[e1] at hq;rw[e2];have hv:=hfam i vs[i] rss[i] (List.getElem?_eq_getElem hi) (List.getElem?_eq_getElem hi2);cases hq with
   | lit _ _=>
    obtain⟨xs,_,_,hr⟩:=id hv;exact aLh hv (λb o hb=>ha _ hf b o ⟨_,List.getElem_mem hi,hb⟩) rfl hr λ_ _ _ _ _ h=>h.mono hsub
theorem DVs.sound(hh:∀m∈fs,m.holds w X)(hs:∀b o,X' b o->X b o)(ha:∀m∈fs,∀b o,m.foot b o->¬X' b o):∀{xs ys:List D} {vs:List Value},DVs fs xs ys->DRs w X xs vs->DRs w X' ys vs
 |[],[],[],_,_=>trivial
 |x::xs,y::ys,v::vs,h,h'=>⟨h.1.sound hh hs ha h'.1,DVs.sound hh hs ha h.2 h'.2⟩
theorem DVs.length:∀{xs ys:List D},DVs fs xs ys->ys.length=xs.length
 |[],[],_=>rfl
 |_::_,_::_,h=>by simp[DVs.length h.2]
theorem BV.sound(hh:∀m∈fs,m.holds w X)(hs:∀b o,X' b o->X b o)(ha:∀m∈fs,∀b o,m.foot b o->¬X' b o){x y:AV}(h:BV fs x y):∀{v:Value},VR w X x v->VR w X' y v:=by
 induction h with
 |same x=>exactλh=>h.mono (Mono.sub hs)
 |any x=>exactλ_=>.any _
 |d h=>intro v hv;cases hv with|d hv=>exact .d (h.sound hh hs ha hv)
 |fl nn k rows=>intro v hv;cases hv with|fl hv _ _=>exact .d (hv.mono (Mono.sub hs))
 |fln k rows=>intro v hv;cases hv with|fl hv _ hn=>exact .d ((hv.mono (Mono.sub hs)).strong (hn rfl))
 |agg h=>intro v hv;cases hv with|agg hv=>exact .agg (h.sound hh hs ha hv)
 | ptc xs=>
  intro v hv;cases hv with
  | d hv=>
   have hv:=hv.mono (Mono.sub hs);cases hv with
   | pt _ b o f hc hr=>
    refine .cp (vs:=(List.range xs.length).map f) b o (DRs.of (by simp) λj d v hj hv=>?_) (λj v hv=>?_) λj hj=>(hc j hj).2
    ·have hjl:j<xs.length:=(List.getElem?_eq_some_iff.1 hj).1
     simp[hjl] at hv
     rw[<-hv];exact hr j d hj
    ·have hjl:j<xs.length:=by
      have:=(List.getElem?_eq_some_iff.1 hv).1
      simpa using this
     simp[hjl] at hv
     rw[<-hv];exact(hc j hjl).1
 | cpt xs=>
  intro v hv;have hv:=hv.mono (Mono.sub hs);cases hv with
  | cp b o h hc hx=>
   rename_i vs
   have hlen:=h.length;refine .d (.pt xs b o (λj=>vs.getD j undef) (λj hj=>⟨?_,hx j hj⟩) λj d hj=>?_)
   ·have hj':j<vs.length:=by omega
    rw[hc j _ (List.getElem?_eq_getElem hj')]
    simp[List.getD,List.getElem?_eq_getElem hj']
   ·obtain⟨v,hv,hdv⟩:=h.get hj;have e1:vs.getD j undef=v:=by simp[List.getD,hv]
    rw[e1];exact hdv
 | bp b o j ds es hm hj h=>
  intro v hv;cases hv;obtain⟨vs,hds,hc,_⟩:=hh _ hm;refine .cp b (o+j) (h.sound hh hs ha (hds.drop j)) (hc.drop j) λq hq=>ha _ hm _ _ ⟨rfl,by omega,?_⟩;have:=h.length
  simp at this
  omega
 | fn f caps caps' hl _ ih=>
  intro v hv;cases hv with
  | fn hl' hv=>
   exact .fn (by omega) λi hi=>ih i (by omega) (hv i (by omega))
 | tup caps caps' hl _ ih=>
  intro v hv;cases hv with
  | tup hl' hv=>
   exact .tup (by omega) λi hi=>ih i (by omega) (hv i (by omega))
end view
theorem oS{env env':Nat->AV}{objs keepers gone:List MO}(hp:objs.Perm (keepers++gone))(he:∀k,BV gone (env k) (env' k)):Ent ⟨env,objs⟩ ⟨env',keepers⟩:=by
 intro A M w0 n a w hR;have hmem:∀m,m∈keepers++gone->m∈objs:=λm hm=>hp.mem_iff.2 hm;have hsep:Sep (keepers++gone):=hp.pairwise hR.inv.sep λh b o h1 h2=>h b o h2 h1;have hsub:∀b o,bF A keepers b o->bF A objs b o:=λb o h=>h.imp id λ⟨m,hm,hf⟩=>⟨m,hmem m (List.mem_append.2 (.inl hm)),hf⟩;have hap:∀m∈gone,∀b o,m.foot b o->¬bF A keepers b o:=by
  intro m hm b o hf hl
  rcases hl with hA|⟨m',hm',hf'⟩
  ·exact hR.inv.apart m (hmem m (List.mem_append.2 (.inr hm))) b o hf hA
  ·exact(List.pairwise_append.1 hsep).2.2 m' hm' m hm b o hf' hf
 have hmono:Mono w (bF A objs) w (bF A keepers):=Mono.sub hsub;refine⟨hR.size,hR.defers.sub hsub,λk=>(he k).sound (λm hm=>hR.inv.holds m (hmem m (List.mem_append.2 (.inr hm)))) hsub hap (hR.env k),⟨(List.pairwise_append.1 hsep).1,λm hm=>hR.inv.apart m (hmem m (List.mem_append.2 (.inl hm))),
  λm hm=>bY (hR.inv.holds m (hmem m (List.mem_append.2 (.inl hm)))) (Keeps.refl (λ_ _=>False) w) (λ_ _ _ h=>h) hmono⟩,hR.keeps,λm hm=>hR.own m (hmem m (List.mem_append.2 (.inl hm))),hR.old⟩
theorem aQn{env env':Nat->AV}{objs:List MO}(he:∀k,env' k=.any\/env' k=env k):Ent ⟨env,objs⟩ ⟨env',objs⟩:=
 oS (gone:=[]) (by simp) λk=>by
  rcases he k with h|h
  ·rw[h];exact .any _
  ·rw[h];exact .same _
end Go.Am
