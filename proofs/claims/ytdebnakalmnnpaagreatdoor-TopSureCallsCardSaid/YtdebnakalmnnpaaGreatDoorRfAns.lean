/- The desk's lines: what each of them answers. -/
import Derived.Test.YtdebnakalmnnpaaGreatDoorXSimP2
import Derived.Test.YtdebnakalmnnpaaGreatDoorRfClo
import Derived.Test.YtdebnakalmnnpaaGreatDoorRfDesk1
import Derived.Test.YtdebnakalmnnpaaGreatDoorAmLend
namespace Go.Am
open Go.Proofs
set_option maxRecDepth 100000
set_option maxHeartbeats 4000000
attribute [local instance] aDb
section
variable{b o:Nat}{n s y:Value}{vs:List Value}{x:aK}
end
def aJx(b o:Nat)(r:Str×aK)(r':AV)(o':List MO):Prop:=r'=.d (.lit (.string ⟨r.1.toArray⟩))/\∃n s y vs,o'=sY b o n s y vs r.2
structure bFw(k:Nat)(F:Value->D)(f:aK->List Int->Option (Str×aK)):Prop where
 h:∀(x:aK) (ns:List Int) {r:Str×aK} (b o:Nat) (n s y:Value) (vs:List Value),ns.length=k->f x ns=some r->aFw Tryz.prog (F (.pointer (some ⟨b,o,none⟩))) [.d (.sl 1 (ns.map aI))] (sY b o n s y vs x) (aJx b o r)
abbrev pv(b o:Nat):Value:=.pointer (some ⟨b,o,none⟩)
theorem wr{f:FuncId}{args:List AV}{x:aK}{r:Str×aK}{b o:Nat}{n s y:Value}{vs:List Value}(hd:r.2.Register.Days=x.Register.Days)
  (hc:bC Tryz.prog f (.bp b o 0::args) ((sY b o n s y vs x).take 3) (λr' o'=>∃n s,r'=.d (.lit (.string ⟨r.1.toArray⟩))/\o'=(sY b o n s y vs r.2).take 3)):
  bC Tryz.prog f (.d (.lit (pv b o))::args) (sY b o n s y vs x) (aJx b o r):=by
 refine aQq (.cons (.lbp b o) (BVs.refl _ _)) ?_;refine aXh (bGa ((sY b o n s y vs x).drop 3) hc) ?_;rintro r' o' ⟨_,⟨n,s,rfl,rfl⟩,rfl⟩;refine⟨rfl,n,s,y,vs,?_⟩;simp only[sY,List.take,List.drop,List.cons_append,List.nil_append,hd]
section
variable{x:aK}{r:Str×aK}{b o:Nat}{n s y:Value}{vs:List Value}
theorem aYt{ns:List Int}{k m:Nat}(h:ns.length=m)(hk:k<m):idx ns (k:Int)=some (aLa ns k):=by
 have hk':k<ns.length:=by omega
 simp[idx,aLa,List.getD,hk']
theorem cFl{F:Value->D}{f:aK->Int->Option (Str×aK)}(h:∀{x p r b o n s y vs},f x p=some r->aFw Tryz.prog (F (pv b o)) [.d (.lit (.int .i64 p))] (sY b o n s y vs x) (aJx b o r)):bFw 1 (λv=>.fc false 178 [.pt [F v]]) λx ns=>f x (aLa ns 0):=by
 refine⟨λx ns r b o n s y vs hl hf=>⟨rfl,Tryz.call178,?_⟩⟩;exact aQq (.cons (.same _) (.cons (.ptc _) .nil)) (cDw _ _ _ (aYt (k:=0) hl (by omega)) (h hf))
theorem cFm{F:Value->D}{f:aK->Int->Int->Int->Option (Str×aK)}(h:∀{x p q t r b o n s y vs},f x p q t=some r->aFw Tryz.prog (F (pv b o)) [.d (.lit (.int .i64 p)),.d (.lit (.int .i64 q)),.d (.lit (.int .i64 t))] (sY b o n s y vs x) (aJx b o r)):bFw 3 (λv=>.fc false 194 [.pt [F v]]) λx ns=>f x (aLa ns 0) (aLa ns 1) (aLa ns 2):=by
 refine⟨λx ns r b o n s y vs hl hf=>⟨rfl,Tryz.call194,?_⟩⟩;exact aQq (.cons (.same _) (.cons (.ptc _) .nil)) (bYb _ _ _ _ _ (aYt (k:=0) hl (by omega)) (aYt (k:=1) hl (by omega)) (aYt (k:=2) hl (by omega)) (h hf))
theorem mth{f:FuncId}{args:List AV}(he:∀args w,(callFunc f args).run Tryz.prog w=.ok (.enter f args) w)(h:bC Tryz.prog f (.d (.lit (pv b o))::args) (sY b o n s y vs x) (aJx b o r)):aFw Tryz.prog (.fc true f [.lit (pv b o)]) args (sY b o n s y vs x) (aJx b o r):=⟨rfl,he,h⟩
end
abbrev aVf(x:aK)(r:Str×aK):Prop:=r.2.Register.Days=x.Register.Days
theorem bTr(x:aK)(k p q:Int):aGt (jS x k p q) (aVf x):=by
 unfold jS
 repeat' first|exact aTy rfl|exactλ_ h=>by cases h|refine bCc λ_=>?_|refine bCd ?_ ?_
theorem bYm(x:aK)(p q:Int):aGt (lZ x p q) (aVf x):=by
 unfold lZ
 repeat' first|exact aTy rfl|exactλ_ h=>by cases h|refine bCc λ_=>?_|refine bCd ?_ ?_
theorem bPz(x:aK)(p:Int):aGt (iS x p) (aVf x):=by
 unfold iS
 repeat' first|exact aTy rfl|exactλ_ h=>by cases h|exact bXc (bYm _ _ _) λa h=>aTy h|refine bCc λ_=>?_|refine bCd ?_ ?_
section
variable{x:aK}{r:Str×aK}{b o:Nat}{n s y:Value}{vs:List Value}
end
theorem bVq:∀l∈aYc,bFw l.k l.F l.f:=by
 intro l hl;simp only[aYc,List.mem_cons,List.not_mem_nil,or_false] at hl
 rcases hl with rfl|rfl|rfl|rfl|rfl|rfl|rfl|rfl|rfl|rfl|rfl|rfl|rfl|rfl|rfl|rfl|rfl|rfl|rfl|rfl|rfl|rfl|rfl|rfl|rfl
 ·exact⟨λ_ _ _ _ _ _ _ _ _ _ hf=>by cases hf⟩
 ·exact⟨λ_ _ _ _ _ _ _ _ _ _ hf=>by cases hf⟩
 ·exact⟨λ_ _ _ _ _ _ _ _ _ _ hf=>by cases hf⟩
 ·exact⟨λ_ _ _ _ _ _ _ _ _ _ hf=>by cases hf⟩
 ·exact⟨λ_ _ _ _ _ _ _ _ _ _ hf=>by cases hf⟩
 ·exact⟨λ_ _ _ _ _ _ _ _ _ _ hf=>by cases hf⟩
 ·exact⟨λ_ _ _ _ _ _ _ _ _ _ hf=>by cases hf⟩
 ·exact⟨λ_ _ _ _ _ _ _ _ _ _ hf=>by cases hf⟩
 ·exact⟨λ_ _ _ _ _ _ _ _ _ _ hf=>by cases hf⟩
 ·exact⟨λ_ _ _ _ _ _ _ _ _ _ hf=>by cases hf⟩
 ·exact⟨λ_ _ _ _ _ _ _ _ _ _ hf=>by cases hf⟩
 ·exact⟨λ_ _ _ _ _ _ _ _ _ _ hf=>by cases hf⟩
 ·exact⟨λ_ _ _ _ _ _ _ _ _ _ hf=>by cases hf⟩
 ·exact⟨λ_ _ _ _ _ _ _ _ _ _ hf=>by cases hf⟩
 ·exact cFl (F:=λv=>.fc true 129 [.lit v]) λh=>mth Tryz.call129 (wr (bPz _ _ _ h) (aOy _ _ h))
 ·exact⟨λ_ _ _ _ _ _ _ _ _ _ hf=>by cases hf⟩
 ·exact⟨λ_ _ _ _ _ _ _ _ _ _ hf=>by cases hf⟩
 ·exact⟨λ_ _ _ _ _ _ _ _ _ _ hf=>by cases hf⟩
 ·exact⟨λ_ _ _ _ _ _ _ _ _ _ hf=>by cases hf⟩
 ·exact⟨λ_ _ _ _ _ _ _ _ _ _ hf=>by cases hf⟩
 ·exact⟨λ_ _ _ _ _ _ _ _ _ _ hf=>by cases hf⟩
 ·exact cFm (F:=λv=>.fc true 133 [.lit v]) λh=>mth Tryz.call133 (wr (bTr _ _ _ _ _ h) (aQm _ _ _ _ h))
 ·exact⟨λ_ _ _ _ _ _ _ _ _ _ hf=>by cases hf⟩
 ·exact⟨λ_ _ _ _ _ _ _ _ _ _ hf=>by cases hf⟩
 ·exact⟨λ_ _ _ _ _ _ _ _ _ _ hf=>by cases hf⟩
theorem aZb{w:Str}{v:Value}{z:List D}:∀{t:List bAs} {l:bAs},aOb w t=some l->l∈t/\cI w (t.map λl=>(l.word,[.lit (.int .i64 l.k),l.F v]))=true/\cE w z (t.map λl=>(l.word,[.lit (.int .i64 l.k),l.F v]))=[.lit (.int .i64 l.k),l.F v]
 |[],l,h=>by cases h
 | l0::t,l,h=>by
  simp only[aOb] at h;simp only[List.map_cons,cI,cE];cases hc:decide (w=l0.word) with
  |true=>rw[hc] at h;cases h;exact⟨List.mem_cons_self,by simp,rfl⟩
  | false=>
   rw[hc] at h;obtain⟨h1,h2,h3⟩:=aZb (v:=v) (z:=z) h;exact⟨List.mem_cons_of_mem _ h1,by simp[h2],h3⟩
theorem aOc{w:Str}{v:Value}{z:List D}:∀{t:List bAs},aOb w t=none->cI w (t.map λl=>(l.word,[.lit (.int .i64 l.k),l.F v]))=false/\cE w z (t.map λl=>(l.word,[.lit (.int .i64 l.k),l.F v]))=z
 |[],h=>⟨rfl,rfl⟩
 | l0::t,h=>by
  simp only[aOb] at h;simp only[List.map_cons,cI,cE];cases hc:decide (w=l0.word) with
  |true=>rw[hc] at h;cases h
  | false=>
   rw[hc] at h;obtain⟨h1,h2⟩:=aOc (v:=v) (z:=z) h;exact⟨by simp[h1],h2⟩
theorem aZi(v:Value):aWn v=aYc.map λl=>(l.word,[.lit (.int .i64 l.k),l.F v]):=rfl
theorem aMj(x:aK)(line:Str){r:Str×aK}{b o:Nat}{n s y:Value}{vs:List Value}(h:jT x line=some r):
  bC Tryz.prog 34 [.bp b o 0,.d (.lit (.string ⟨line.toArray⟩))] (sY b o n s y vs x) (aJx b o r):=by
 refine bRp (args':=[.d (.lit (pv b o)),.d (.lit (sv line))]) (λw X us hu=>by
  match us,hu with
  |[_,_],⟨h1,h2,_⟩=>exact⟨by cases h1;exact .d (.lit _ rfl),h2,trivial⟩) ?_
 obtain⟨p,hp,h⟩:=bind_some h;obtain⟨word,ns,is⟩:=p;have hp:=aZv _ hp;have bad:some (([63]:Str),x)=some r->aJx b o r (.d (.lit (sv [63]))) (sY b o n s y vs x):=by
  rintro e;cases e;exact⟨rfl,n,s,y,vs,rfl⟩
 cases hl:aOb word aYc with
 |none=>exact bZa (pv b o) line word ns is false 0 (.lit .nilFunc) hp (by rw[aZi];exact(aOc (z:=bPr) hl).1) (by rw[aZi];exact(aOc hl).2) (λ_=>by cases is<;>simp only[hl] at h<;>exact bad h) (λe=>by simp at e)
 | some l=>
  obtain⟨h1,h2,h3⟩:=aZb (v:=pv b o) (z:=bPr) hl;refine bZa (pv b o) line word ns is true l.k (l.F (pv b o)) hp (by rw[aZi];exact h2) (by rw[aZi];exact h3) (λe=>?_) (λe=>?_)
  ·cases is with
   |false=>exact bad h
   | true=>
    have hk:¬ns.length=l.k:=λhk=>by simp[hk] at e
    simp only[hl,decide_eq_false hk] at h;exact bad h
  ·simp only[Bool.true_and,Bool.and_eq_true,decide_eq_true_eq] at e;have hk:ns.length=l.k:=by have:=e.2;omega
   obtain⟨rfl,_⟩:=e;simp only[hl,decide_eq_true hk] at h;exact(bVq l h1).h x ns b o n s y vs hk h
end Go.Am
