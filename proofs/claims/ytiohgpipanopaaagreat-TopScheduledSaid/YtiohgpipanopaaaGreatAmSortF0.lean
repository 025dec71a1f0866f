/- Several texts, one behind the other. -/
import Derived.Test.YtiohgpipanopaaaGreatAmView
import Derived.Test.YtiohgpipanopaaaGreatAmRangeC
import Derived.Shelf.SlSortCmp.Insertion
section
namespace Go.Am
def rC(b:Nat)(f:FuncId)(caps:List AV):MO:=.ext (λx o=>x=b/\o=0) (λw X=>∃v,w.cell? ⟨b,0,none⟩=some v/\VR w X (.fn f caps) v)
section
variable{P:Program}{n d:Nat}{st:St}
theorem bRe{w:World}{X:bH}{b:Nat}{f:FuncId}{caps:List AV}(h:(rC b f caps).holds w X):∃v,w.cell? ⟨b,0,none⟩=some v/\VR w X (.fn f caps) v:=
 h.2 w X (Mono.refl _ _) (Keeps.refl _ _)
theorem aSf{x:Operand}{t:TypeId}{b i:Nat}{f:FuncId}{caps:List AV}{ty:TypeId}{pos:String}{af:Array Edge}{gd:Option (Nat×Bool)}(hd:d<n)
  (hx:st.eval x=.bp b 0 0)(ho:st.objs[i]?=some (rC b f caps))(ht:iF P t):bB P n ⟨some d,.load t x,ty,pos,af,gd⟩ st (st.set d (.fn f caps)):=
 cO rfl hd λA M w0 a w hR=>by
  have hk:cT x=true:=by cases x with|const u=>cases hx|_=>rfl
  have h:=hR.eval' hk;rw[hx] at h
  generalize hu:a.eval x=u at h
  obtain⟨v,hc,hv⟩:=bRe (hR.inv.holds _ (List.mem_of_getElem? ho));cases h with
  |bp=>exact⟨v,by simp[execOp,hu,aBx ht hc],hv⟩
theorem bFx{x y:Operand}{t b i:Nat}{d0:D}{f:FuncId}{caps:List AV}{ty:TypeId}{pos:String}{af:Array Edge}{gd:Option (Nat×Bool)}
  (hx:st.eval x=.bp b 0 0)(ho:st.objs[i]?=some (.box b 0 [d0]))(hy:st.eval y=.fn f caps)(hk:cT y=true)(ht:∀w,(sizeOf t).run P w=.ok 1 w):
  bB P n ⟨none,.store t x y,ty,pos,af,gd⟩ st (st.put1 i (rC b f caps)):=by
 intro A M w0 a w hR K Q hK;have hkx:cT x=true:=by cases x with|const u=>cases hx|_=>rfl
 have h:=hR.eval' hkx;rw[hx] at h;have hyv:=hR.eval' hk;rw[hy] at hyv;obtain⟨u,hu⟩:∃u,a.eval y=u:=⟨_,rfl⟩;rw[hu] at hyv;have hcells:u.cells= #[u]/\u.oneCell'=true:=by cases hyv;exact⟨rfl,rfl⟩
 obtain⟨vs,hvs,hc,hf⟩:=hR.inv.holds _ (List.mem_of_getElem? ho);have hlv:=hvs.length;have hcell:(w.cell? ⟨b,0,none⟩).isSome=true:=by
  have:=hc 0 _ (List.getElem?_eq_getElem (by rw[hlv];exact Nat.zero_lt_one));simp only[Nat.add_zero] at this;rw[this];rfl
 have hpt:a.eval x=.pointer (some ⟨b,0,none⟩):=by
  generalize hu:a.eval x=u at h
  cases h;rfl
 have hst:=aBy (P:=P) ht (w:=w) (b:=b) (o:=0) (v:=u) (by rw[hcells.1];rfl) (λq hq=>by
   have:q=0:=by omega
   subst this;simpa using hcell) (λq hq=>by
   have:q=0:=by omega
   subst this;simpa using hf 0 (by simp)) (by rw[hcells.1];simpa using hcells.2)
 unfold Oper.wp;have hrun:(execOp a.eval ⟨none,.store t x y,ty,pos,af,gd⟩).run P w=.ok .skip (w.setCells b 0 u.cells.toList):=by
  simp[execOp,hpt,hu,hst]
 rw [hrun,Oper.upon_skip];refine hK _ _ _ rfl ?_;have hR':=hR.replace (w':=w.setCells b 0 u.cells.toList) (m':=rC b f caps) ho (Keeps.setCells w b 0 _ (Z:=(MO.box b 0 [d0]).foot) (λq h1 h2=>by
   rw[hcells.1] at h2;simp only[List.length_cons,List.length_nil] at h2;exact⟨rfl,by omega,by simp;omega⟩) (by rw[hcells.1];simp))
  (λ_ _ hz=>hz) (λp q hf'=>.inl ⟨hf'.1,by omega,by have:=hf'.2;simp;omega⟩) λhmono=>by
   have hlt:b<w.heap.size:=by
    have:=hc 0 _ (List.getElem?_eq_getElem (by rw[hlv];exact Nat.zero_lt_one));exact block_lt_of_cell this
   have hk0:Keeps (MO.box b 0 [d0]).foot w (w.setCells b 0 u.cells.toList):=Keeps.setCells w b 0 _ (λq h1 h2=>by
    rw[hcells.1] at h2;simp only[List.length_cons,List.length_nil] at h2;exact⟨rfl,by omega,by simp;omega⟩) (by rw[hcells.1];simp)
   have hsame:(w.setCells b 0 u.cells.toList).cell? ⟨b,0,none⟩=some u:=by
    rw[hcells.1];have:=World.cell?_setCells_in b [u] 0 w (λj hj=>by
     have:j=0:=by simpa using hj
     subst this;simpa using hcell) 0 (by simp)
    simpa using this
   refine⟨λb' o hb=>?_,λw' X' hm hk=>⟨u,?_,(hyv.mono hmono).mono hm⟩⟩
   ·obtain⟨rfl,_⟩:=hb;exact Nat.lt_of_lt_of_le hlt hk0.size
   ·rw[hk.cell b 0 (Nat.lt_of_lt_of_le hlt hk0.size) (λh=>h ⟨rfl,rfl⟩)];exact hsame
 exact hR'.put_none rfl
def aQg{α:Type}(c:Int)(xs ys:List α):Option (List α):=if((xs.length+ys.length:Nat):Int)<=c then some (xs++ys) else none
theorem aQh{α:Type}{c:Int}{xs ys zs:List α}(h:aQg c xs ys=some zs):((xs.length+ys.length:Nat):Int)<=c/\zs=xs++ys:=by
 unfold aQg at h;split at h
 ·rename_i hc;cases h;exact⟨hc,rfl⟩
 ·cases h
theorem bPg{α:Type}{t e k bytes i g cap:Nat}{z:Value}{x y:Operand}{f:α->List D}{xs ys zs:List α}{c:Int}{ty:TypeId}{pos:String}{af:Array Edge}{gd:Option (Nat×Bool)}(hd:d<n)(ht:SliceTy P t e k bytes z)
  (hx:st.eval x=.d (.lit (vw g xs.length cap)))(ho:st.objs[i]?=some (.arr (vw g xs.length cap) e k (xs.map f)))(hy:st.eval y=.d (.sl k (ys.map f)))(hk:∀a,(f a).length=k)
  (hc:(cap:Int)=c)(h:aQg c xs ys=some zs)(hne:ys≠[]):
  bB P n ⟨some d,.call {callee:=.builtin .append,args:= #[x,y],argTypes:= #[t,t]},ty,pos,af,gd⟩ st (st.setput d (.d (.lit (vw g zs.length cap))) i (.arr (vw g zs.length cap) e k (zs.map f))):=by
 obtain⟨h1,rfl⟩:=aQh h;have:=bHm (P:=P) (n:=n) (d:=d) (st:=st) (rows:=xs.map f) (rows2:=ys.map f) (m:=xs.length) (ty:=ty) (pos:=pos) (af:=af) (gd:=gd) hd ht hx (by simp) ho hy (dT hk) (by simp;omega) (by simpa using hne)
 simpa using this
theorem bGx{α:Type}{env:Nat->AV}{objs:List MO}(i:Nat){g cap e k:Nat}{f:α->List D}{c:Int}{xs ys zs:List α}(h:aQg c xs ys=some zs)(ho:objs[i]?=some (.arr (vw g zs.length cap) e k (zs.map f))):
  Ent ⟨env,objs⟩ ⟨env,objs.set i (.arr (vw g xs.length cap) e k (xs.map f))⟩:=by
 obtain⟨_,rfl⟩:=aQh h;exact bKn i (rows:=xs.map f) (more:=ys.map f) (by simp) (by simpa using ho)
theorem bPz{α:Type}{c:Int}{cap:Nat}{xs ys zs:List α}(hc:(cap:Int)=c)(h:aQg c xs ys=some zs):zs.length<=cap:=by
 obtain⟨h1,rfl⟩:=aQh h
 simp;omega
def mk0(bytes:Nat)(c:Int):Option Nat:=if 0<=c/\c*(bytes:Int)<=140737488355328 then some c.toNat else none
theorem bEo{bytes:Nat}{c:Int}{q:Nat}(h:mk0 bytes c=some q):0<=c/\c*(bytes:Int)<=140737488355328/\q=c.toNat:=by
 unfold mk0 at h;split at h
 ·rename_i hc;cases h;exact⟨hc.1,hc.2,rfl⟩
 ·cases h
theorem bVv{bytes:Nat}{c:Int}{q:Nat}(h:mk0 bytes c=some q):(q:Int)=c:=by
 obtain⟨h1,_,rfl⟩:=bEo h
 omega
theorem bWj{α:Type}(f:α->List D){t e k bytes q:Nat}{z:Value}{x y:Operand}{k1 k2:IntKind}{c:Int}{ty:TypeId}{pos:String}{af:Array Edge}{gd:Option (Nat×Bool)}(hd:d<n)(ht:SliceTy P t e k bytes z)
  (hx:st.eval x=.d (.lit (.int k1 0)))(hy:st.eval y=.d (.lit (.int k2 c)))(hb:mk0 bytes c=some q)(hby:0<bytes):
  Step P n ⟨some d,.makeSlice t x y,ty,pos,af,gd⟩ st (λs=>∃g,s=(st.setadd d (.d (.lit (vw g ([]:List α).length q))) (.arr (vw g ([]:List α).length q) e k (([]:List α).map f)))):=by
 obtain⟨h0,h1,rfl⟩:=bEo hb;exact bWi hd ht hx hy h0 h1 hby
theorem bZw{S0:Type}{J K:S0->MO->Prop}{x:S0×Bool}{m:MO}(h:JK J K x m)(hb:(!x.2)=true):JK J K (x.1,false) m:=by
 unfold JK at h|-;cases hx:x.2 with
 |true=>rw[hx] at hb;cases hb
 |false=>rw[hx] at h;exact h
end
end Go.Am
end
section
namespace Go.Am
open Go.Sort Go.Proofs
def ltO{α:Type}(cmp:α->α->Option Int)(x y:α):Bool:=match cmp x y with|some r=>decide (r<0)|none=>false
def aQv{α:Type}[DecidableEq α](zs:List α)(cmp:α->α->Option Int):Bool:=
 zs.all λx=>!ltO cmp x x&&zs.all λy=>(cmp x y).isSome&&(decide (x=y)||ltO cmp x y||ltO cmp y x)&&zs.all λz=>(!(ltO cmp x y&&ltO cmp y z)||ltO cmp x z)&&(ltO cmp x y||ltO cmp y z||!ltO cmp x z)
def lQ{α:Type}(cmp:α->α->Option Int)(zs:List α):List α:=zs.mergeSort λx y=>!ltO cmp y x
def aXc{α:Type}[DecidableEq α](zs:List α)(cmp:α->α->Option Int):Option (List α):=if aQv zs cmp=true/\zs.length<4611686018427387904 then some (lQ cmp zs) else none
section
variable{α:Type}[DecidableEq α]{zs:List α}{cmp:α->α->Option Int}(hok:aQv zs cmp=true)
include hok
theorem aMr:(∀x∈zs,ltO cmp x x=false)/\(∀x∈zs,∀y∈zs,∃r,cmp x y=some r)/\(∀x∈zs,∀y∈zs,x=y\/ltO cmp x y=true\/ltO cmp y x=true)/\
  (∀x∈zs,∀y∈zs,∀z∈zs,ltO cmp x y=true->ltO cmp y z=true->ltO cmp x z=true)/\∀x∈zs,∀y∈zs,∀z∈zs,ltO cmp x y=false->ltO cmp y z=false->ltO cmp x z=false:=by
 unfold aQv at hok;simp only[List.all_eq_true,Bool.and_eq_true,Bool.or_eq_true,Bool.not_eq_true',decide_eq_true_eq] at hok;refine⟨λx hx=>(hok x hx).1,λx hx y hy=>Option.isSome_iff_exists.1 ((hok x hx).2 y hy).1.1,λx hx y hy=>or_assoc.1 ((hok x hx).2 y hy).1.2,λx hx y hy z hz h1 h2=>?_,λx hx y hy z hz h1 h2=>?_⟩
 ·rcases(((hok x hx).2 y hy).2 z hz).1 with h|h
  ·simp[h1,h2] at h
  ·exact h
 ·rcases(((hok x hx).2 y hy).2 z hz).2 with(h|h)|h
  ·rw[h1] at h;cases h
  ·rw[h2] at h;cases h
  ·exact h
def cfS(zs:List α)(cmp:α->α->Option Int)(x y:{x // x∈zs}):Int:=(cmp x.1 y.1).getD 0
theorem aFf(x y:{x // x∈zs}):ltOf (cfS zs cmp) x y=ltO cmp x.1 y.1:=by
 obtain⟨r,hr⟩:=(aMr hok).2.1 x.1 x.2 y.1 y.2;unfold ltOf cfS ltO;rw[hr];rfl
theorem bXq:SWO (ltOf (cfS zs cmp)):=by
 obtain⟨h1,_,_,h4,h5⟩:=aMr hok;exact⟨λx=>by rw[aFf hok];exact h1 x.1 x.2,λx y z=>by rw[aFf hok,aFf hok,aFf hok];exact h4 x.1 x.2 y.1 y.2 z.1 z.2,λx y z=>by rw[aFf hok,aFf hok,aFf hok];exact h5 x.1 x.2 y.1 y.2 z.1 z.2⟩
theorem bXr(x y:{x // x∈zs})(h1:ltOf (cfS zs cmp) x y=false)(h2:ltOf (cfS zs cmp) y x=false):x=y:=by
 rw[aFf hok] at h1 h2
 rcases(aMr hok).2.2.1 x.1 x.2 y.1 y.2 with h|h|h
 ·exact Subtype.ext h
 ·rw[h1] at h;cases h
 ·rw[h2] at h;cases h
theorem bHu:(zs.attach.mergeSort λx y=>!(ltOf (cfS zs cmp)) y x).map Subtype.val=lQ cmp zs:=by
 unfold lQ;rw[List.map_mergeSort (s:=λx y=>!ltO cmp y x) λa _ b _=>by rw[aFf hok],List.attach_map_subtype_val]
end
end Go.Am
end
