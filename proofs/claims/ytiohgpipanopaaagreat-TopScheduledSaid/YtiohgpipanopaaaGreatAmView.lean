/- Several texts, one behind the other. -/
import Derived.Test.YtiohgpipanopaaaGreatAmFam2
import Derived.Test.YtiohgpipanopaaaGreatAmRange
import Derived.Sort.OwnSortedInts
import Derived.Test.YtiohgpipanopaaaGreatAmClose
section
section
namespace Go.Am
open Go.Sort
theorem bAc:∀zs:List Int,(zs.map aD).flatten=zs.map λx=>.lit (.int .i64 x)
 |[]=>rfl
 |z::zs=>by simp only[List.map_cons,List.flatten_cons,bAc zs];rfl
theorem bDk{w:World}{X:bH}:∀(zs:List Int),DRs w X ((zs.map aD).flatten) (zs.map (Value.int .i64))
 |[]=>trivial
 |z::zs=>⟨.lit _ rfl,bDk zs⟩
theorem bGv{w:World}{X:bH}{zs:List Int}{xs:List Value}(h:DRs w X ((zs.map aD).flatten) xs):xs=zs.map (Value.int .i64):=by
 have hl:∀zs:List Int,eZ ((zs.map aD).flatten)=true:=by
  intro zs
  induction zs with
  |nil=>rfl
  |cons z zs ih=>rw[List.map_cons,List.flatten_cons];exact ih
 rw[aMc (hl zs) h,bAc,List.map_map]
 rfl
theorem bHb{w w':World}{v:Value}(h:w.grownBy w' v.ownBlock)(hd:w.drawn<=w'.drawn):Keeps (λb _=>v.ownBlock=some b) w w':=by
 obtain⟨h1,h2,h3,h4,h5⟩:=h;have hb:∀b,b<w.heap.size->v.ownBlock≠some b->w'.heap[b]?=w.heap[b]?:=λb hb hn=>h5 b hb (Ne.symm hn);refine⟨h1,h2,h3,h4,λb hlt hz=>hb b hlt (hz 0),λb o hlt hz=>?_,λb o hlt hz=>?_,hd⟩
 ·simp only[World.cell?,hb b hlt hz]
 ·simp only[World.frozen?,hb b hlt hz]
end Go.Am
end
section
namespace Go.Am
section
variable{P:Program}{n d:Nat}{st:St}{o:Oper}
end
section
variable{P:Program}{n d:Nat}{st:St}{o:Oper}
end
end Go.Am
end
end
section
namespace Go.Am
def vw(g m cap:Nat):Value:=.slice (some ⟨g,0,none⟩) m cap
theorem aZx{w:World}{X:bH}:∀{as bs:List D} {vs:List Value},DRs w X (as++bs) vs->∃ys zs,vs=ys++zs/\DRs w X as ys/\DRs w X bs zs
 |[],_,vs,h=>⟨[],vs,rfl,trivial,h⟩
 |_::as,bs,[],h=>h.elim
 | a::as,bs,v::vs,h=>by
  obtain⟨ys,zs,rfl,h1,h2⟩:=aZx (as:=as) h.2;exact⟨v::ys,zs,rfl,⟨h.1,h1⟩,h2⟩
section
variable{P:Program}{n d:Nat}{st:St}
theorem R.shrink{A M:bH}{w0:W0}{a:Act}{w:World}(hR:R A M w0 n st a w){i g m cap e k:Nat}{rows more:List (List D)}(hm:rows.length=m)
  (ho:st.objs[i]?=some (.arr (vw g (rows++more).length cap) e k (rows++more))):R A M w0 n ⟨st.env,st.objs.set i (.arr (vw g m cap) e k rows)⟩ a w:=by
 subst hm;obtain⟨xs,hxs,hown,hall⟩:=hR.inv.holds _ (List.mem_of_getElem? ho);refine hR.replace (Z:=λ_ _=>False) ho (Keeps.refl _ _) (λb o h=>h.elim) (λb o hf=>.inl (by simpa[MO.foot,Value.ownBlock,vw] using hf)) λhmono=>?_;obtain⟨hl,hc⟩:=hown;have hlen:(rows++more).flatten.length=rows.flatten.length+more.flatten.length:=by simp
 have hk:rows.flatten.length=rows.length*k:=qC λr hr=>hall r (List.mem_append_left _ hr);rw[List.flatten_append] at hxs;have hx1:=hxs.mono hmono;obtain⟨ys,zs,rfl,h1,h2⟩:=aZx hx1;have hyl:ys.length=rows.length*k:=by rw[h1.length,hk]
 refine⟨ys,h1,⟨hyl,?_⟩,λr hr=>hall r (List.mem_append_left _ hr)⟩
 rcases hc with⟨hn,_⟩|⟨g',cap',cur,hv,hb,hh,hle,hmx,hsz,htk⟩
 ·cases hn
 ·injection hv with e1 e2 e3
  injection e1 with e1
  injection e1 with e1 _ _
  subst e1;subst e3;refine .inr ⟨g,cap,cur,rfl,hb,hh,?_,hmx,hsz,?_⟩
  ·rw[List.length_append] at hle;omega
  ·have:rows.length*k<=(rows++more).length*k:=Nat.mul_le_mul_right _ (by simp);rw[<-Nat.min_eq_left this,<-List.take_take,htk,<-hyl];exact List.take_left
theorem bKn{env:Nat->AV}{objs:List MO}(i:Nat){g m cap e k:Nat}{rows more:List (List D)}(hm:rows.length=m)(ho:objs[i]?=some (.arr (vw g (rows++more).length cap) e k (rows++more))):
  Ent ⟨env,objs⟩ ⟨env,objs.set i (.arr (vw g m cap) e k rows)⟩:=λ_ _ _ _ _ _ hR=>hR.shrink hm ho
theorem bMx{t e k bytes:Nat}{z:Value}(ht:SliceTy P t e k bytes z){A M:bH}{w0:W0}{a:Act}{w:World}(hR:R A M w0 n st a w){i g m cap:Nat}{u:Value}{rows rows2:List (List D)}(hml:rows.length=m)
  (ho:st.objs[i]?=some (.arr (vw g m cap) e k rows))(hu:DR w (bF A st.objs) (.sl k rows2) u)(hk2:∀r∈rows2,r.length=k)(hroom:m+rows2.length<=cap)(hne:rows2≠[])(ty:TypeId):
  ∃w',(Builtin.append_ #[t,t] ty #[vw g m cap,u]).run P w=.ok (vw g (m+rows2.length) cap) w'/\R A M w0 n ⟨st.env,st.objs.set i (.arr (vw g (m+rows2.length) cap) e k (rows++rows2))⟩ a w':=by
 subst hml;obtain⟨xs,hxs,hown,hk⟩:=hR.inv.holds _ (List.mem_of_getElem? ho);obtain⟨inf,hi,hz,hs,hbs⟩:=ht.inf;subst hs;subst hbs;obtain⟨ad,m,c,news,hu',rfl,hnd,hnc⟩:=hu.news ht.pos hk2;have hnl:news.length=rows2.length*inf.size:=by rw[hnd.length,qC hk2]
 have hxl:xs.length=rows.length*inf.size:=hown.1;have hall:∀r∈rows++rows2,r.length=inf.size:=λr hr=>by
  rcases List.mem_append.1 hr with h|h
  ·exact hk r h
  ·exact hk2 r h
 rcases hu'.symm with⟨_,hz0⟩|rfl
 ·exact absurd (List.eq_nil_of_length_eq_zero hz0) hne
 rcases hown.2 with⟨hv,_⟩|⟨g',cap',cur,hv,hg1,hg2,hg3,hg4,hg5,hg6⟩
 ·cases hv
 injection hv with e1 e2 e3
 injection e1 with e1
 injection e1 with e1 _ _
 subst e1;subst e3;have hfit:rows.length*inf.size+news.length<=cur.size:=by rw[hnl,hg5,<-Nat.add_mul];exact Nat.mul_le_mul_right _ hroom
 have hr:=run_append_room (P:=P) w t ty e inf ht.und hi g rows.length cap cur hg2 ad rows2.length c news hnl hnc hnd.oneCell hroom hfit;refine⟨_,hr,hR.replace (Z:=λb _=>b=g) ho (Keeps.setRow w g _ λ_=>rfl) (λb o hb=>by subst hb;rfl) (λb o hf=>.inl (by simpa[MO.foot,Value.ownBlock,vw] using hf)) (λhm=>?_)⟩;refine⟨xs++news,?_,⟨?_,.inr ⟨g,cap,_,?_,Nat.zero_le _,setRow_heap w g cur _ e _ hg2,?_,hg4,?_,?_⟩⟩,hall⟩
 ·rw[List.flatten_append];exact(hxs.append hnd).mono hm
 ·simp[hxl,hnl,Nat.add_mul]
 ·simp[vw]
 ·simpa using hroom
 ·simp only[List.size_toArray,List.length_append,List.length_take,List.length_drop,Array.length_toList]
  omega
 ·have:(rows++rows2).length*inf.size=(xs++news).length:=by simp[hxl,hnl,Nat.add_mul]
  rw[this,hg6];exact List.take_left
theorem bHm{t e k bytes i g m cap:Nat}{z:Value}{x y:Operand}{rows rows2:List (List D)}{ty:TypeId}{pos:String}{af:Array Edge}{gd:Option (Nat×Bool)}(hd:d<n)(ht:SliceTy P t e k bytes z)
  (hx:st.eval x=.d (.lit (vw g m cap)))(hml:rows.length=m)(ho:st.objs[i]?=some (.arr (vw g m cap) e k rows))(hy:st.eval y=.d (.sl k rows2))(hk2:∀r∈rows2,r.length=k)
  (hroom:m+rows2.length<=cap)(hne:rows2≠[]):
  bB P n ⟨some d,.call {callee:=.builtin .append,args:= #[x,y],argTypes:= #[t,t]},ty,pos,af,gd⟩ st
   (st.setput d (.d (.lit (vw g (m+rows2.length) cap))) i (.arr (vw g (m+rows2.length) cap) e k (rows++rows2))):=by
 intro A M w0 a w hR K Q hK;have hky:cT y=true:=by cases y with|const u=>cases hy|_=>rfl
 have h:=hR.eval' hky;rw[hy] at h
 generalize hu:a.eval y=u at h
 cases h with
 | d h=>
  obtain⟨w',hr,hR'⟩:=bMx ht hR hml ho h hk2 hroom hne ty;unfold Oper.wp;have hrun:(execOp a.eval ⟨some d,.call {callee:=.builtin .append,args:= #[x,y],argTypes:= #[t,t]},ty,pos,af,gd⟩).run P w=.ok (.value (vw g (m+rows2.length) cap)) w':=by
   simp[execOp,resolve,invoke,builtin,hR.lit hx,hu,hr]
  rw[hrun,Oper.upon_value];refine hK _ _ _ rfl ?_;exact hR'.put (o:=⟨some d,.call {callee:=.builtin .append,args:= #[x,y],argTypes:= #[t,t]},ty,pos,af,gd⟩) rfl hd (.of_lit rfl)
theorem bWi{t e k bytes:Nat}{z:Value}{x y:Operand}{k1 k2:IntKind}{c:Int}{ty:TypeId}{pos:String}{af:Array Edge}{gd:Option (Nat×Bool)}(hd:d<n)(ht:SliceTy P t e k bytes z)
  (hx:st.eval x=.d (.lit (.int k1 0)))(hy:st.eval y=.d (.lit (.int k2 c)))(h0:0<=c)(hb:c*(bytes:Int)<=140737488355328)(hby:0<bytes):
  Step P n ⟨some d,.makeSlice t x y,ty,pos,af,gd⟩ st (λs=>∃g,s=(st.setadd d (.d (.lit (vw g 0 c.toNat))) (.arr (vw g 0 c.toNat) e k []))):=by
 intro A M w0 a w hR K Q hK;obtain⟨inf,hi,hzi,hs,hbs⟩:=ht.inf;subst hs;subst hbs;have hm63:c<=140737488355328:=by
  have:c*1<=c*(inf.bytes:Int):=Int.mul_le_mul_of_nonneg_left (by omega) h0
  omega
 have hr:=run_make (P:=P) w t e inf z ht.und hi hzi k1 k2 0 c (Int.le_refl _) h0 (by rw[Int.mul_comm];omega) (by omega);unfold Oper.wp;have hrun:(execOp a.eval ⟨some d,.makeSlice t x y,ty,pos,af,gd⟩).run P w=.ok (.value (vw w.heap.size 0 c.toNat)) (w.alloc (.cells (madeCells z.cells (c.toNat*inf.size)) e)):=by
  simp[execOp,hR.lit hx,hR.lit hy,hr,vw]
 rw[hrun,Oper.upon_value];refine hK _ _ _ ⟨w.heap.size,rfl⟩ ?_;have hR':=hR.add (w':=w.alloc (.cells (madeCells z.cells (c.toNat*inf.size)) e)) (m:=.arr (vw w.heap.size 0 c.toNat) e inf.size []) (Keeps.alloc _ _ _)
  (λb o hf=>by simp[MO.foot,Value.ownBlock,vw] at hf;omega)
  (λ_=>⟨[],trivial,⟨by simp,.inr ⟨w.heap.size,c.toNat,_,rfl,Nat.zero_le _,heap_alloc_new w _,Nat.zero_le _,by simp only[maxLen];omega,size_madeCells _ _,by simp⟩⟩,by simp⟩)
 exact hR'.put (o:=⟨some d,.makeSlice t x y,ty,pos,af,gd⟩) rfl hd (.of_lit rfl)
end
end Go.Am
end
