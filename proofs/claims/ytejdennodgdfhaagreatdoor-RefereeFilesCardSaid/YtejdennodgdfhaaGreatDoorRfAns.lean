/- The desk's lines: what each of them answers. -/
import Derived.Test.YtejdennodgdfhaaGreatDoorXSimP2
import Derived.Test.YtejdennodgdfhaaGreatDoorRfClo
import Derived.Test.YtejdennodgdfhaaGreatDoorRfDesk1
import Derived.Test.YtejdennodgdfhaaGreatDoorAmLend
namespace Go.Am
open Go.Proofs
set_option maxRecDepth 100000
set_option maxHeartbeats 4000000
attribute [local instance] zI
def bEf(y:Value)(x:aS):List D:=[.lit (.int .i64 x.Desk.Field.Places),.lit (.int .i64 x.Desk.Field.Wilds),.lit (.int .i64 x.Desk.Field.Guards),.lit (.int .i64 x.Desk.Field.Close),.lit (.int .i64 x.Desk.Field.Freeze),.lit (.int .i64 x.Desk.Tree.Rounds),.sl 1 (x.Desk.Tree.Slots.map aE),.lit (.int .i64 x.Desk.Format.Sets),.lit (.int .i64 x.Desk.Format.Games),.lit (.bool x.Desk.Format.NoAd),.lit (.int .i64 x.Desk.Format.Tie),.lit (.int .i64 x.Desk.Format.To),.lit (.int .i64 x.Desk.Format.LastTie),.lit (.int .i64 x.Desk.Format.LastTo),.lit (.int .i64 x.Desk.Format.First),.lit (.int .i64 x.Desk.Format.Then),.lit (.bool x.Desk.Format.Doubles),.sl 1 (x.Desk.Days.map bO),.lit (.int .i64 x.Desk.Rest),.sl 3 (x.Desk.Stages.map bS),.lit (.int .i64 x.Register.Hour),.sl 5 (x.Register.Notices.map aH),.sl 5 (x.Register.Slips.map aJ),.lit (.int .i64 x.Register.Round),.lit (.int .i64 x.Register.Place),.lit (.int .i64 x.Register.First),.sl 1 (x.Register.Points.map aE),.lit y,.lit (.int .i64 x.bout.Round),.lit (.int .i64 x.bout.Place),.lit (.int .i64 x.bout.One),.lit (.int .i64 x.bout.Two)]
section
variable{b o:Nat}{n s y:Value}{vs:List Value}{x:aS}
theorem bJi{fs:List MO}{l xs ys:List D}(h:DVs fs xs ys):DVs fs (l++xs) (l++ys):=by
 induction l with
 |nil=>exact h
 |cons a l ih=>exact⟨.same _,ih⟩
theorem bRd:BV (jG b o n s y vs x) (.bp b o 0) (.cp (bEf y x)):=
 lU 0 rfl rfl (bJi (l:=(aBw n s y x).take 21) (dvc (cI 1 rfl (bN (f:=aH) λ_=>rfl)) (dvc (cI 2 rfl (bN (f:=aJ) λ_=>rfl)) (bJi (l:=(aBw n s y x).drop 23) (xs:=[]) (ys:=[]) trivial))))
end
def rD(b o:Nat)(r:Str×aS)(r':AV)(o':List MO):Prop:=r'=.d (.lit (.string ⟨r.1.toArray⟩))/\∃n s y vs,o'=jG b o n s y vs r.2
structure aCm(k:Nat)(F:Value->D)(f:aS->List Int->Option (Str×aS)):Prop where
 h:∀(x:aS) (ns:List Int) {r:Str×aS} (b o:Nat) (n s y:Value) (vs:List Value),ns.length=k->f x ns=some r->pV Tryz.prog (F (.pointer (some ⟨b,o,none⟩))) [.d (.sl 1 (ns.map aE))] (jG b o n s y vs x) (rD b o r)
abbrev pv(b o:Nat):Value:=.pointer (some ⟨b,o,none⟩)
theorem bSg{f:FuncId}{args:List AV}{g:Option Str}{x:aS}{r:Str×aS}{b o:Nat}{n s y:Value}{vs:List Value}(h:g.map (λs=>(s,x))=some r)(hc:∀s,g=some s->Fn Tryz.prog f (.cp (bEf y x)::args) (.d (.lit (.string ⟨s.toArray⟩)))):
  bI Tryz.prog f (.d (.lit (pv b o))::args) (jG b o n s y vs x) (rD b o r):=by
 cases hg:g with
 |none=>rw[hg] at h;cases h
 | some t=>
  rw[hg] at h;cases h;refine sY (.cons (.lbp b o) (BVs.refl _ _)) ?_;refine oW (bAv (.cons bRd (BVs.refl _ _)) (hc t hg) (λr o h=>h.1▸rfl)) ?_;rintro r' o' ⟨rfl,_,rfl,_⟩;exact⟨rfl,n,s,y,vs,rfl⟩
theorem wr{f:FuncId}{args:List AV}{x:aS}{r:Str×aS}{b o:Nat}{n s y:Value}{vs:List Value}(hd:r.2.Register.Days=x.Register.Days)
  (hc:bI Tryz.prog f (.bp b o 0::args) ((jG b o n s y vs x).take 3) (λr' o'=>∃n s,r'=.d (.lit (.string ⟨r.1.toArray⟩))/\o'=(jG b o n s y vs r.2).take 3)):
  bI Tryz.prog f (.d (.lit (pv b o))::args) (jG b o n s y vs x) (rD b o r):=by
 refine sY (.cons (.lbp b o) (BVs.refl _ _)) ?_;refine oW (aWz ((jG b o n s y vs x).drop 3) hc) ?_;rintro r' o' ⟨_,⟨n,s,rfl,rfl⟩,rfl⟩;refine⟨rfl,n,s,y,vs,?_⟩;simp only[jG,List.take,List.drop,List.cons_append,List.nil_append,hd]
section
variable{x:aS}{r:Str×aS}{b o:Nat}{n s y:Value}{vs:List Value}
theorem aGi{ns:List Int}{k m:Nat}(h:ns.length=m)(hk:k<m):idx ns (k:Int)=some (uJ ns k):=by
 have hk':k<ns.length:=by omega
 simp[idx,uJ,List.getD,hk']
theorem bOd{F:Value->D}{f:aS->Option (Str×aS)}(h:∀{x r b o n s y vs},f x=some r->pV Tryz.prog (F (pv b o)) [] (jG b o n s y vs x) (rD b o r)):aCm 0 (λv=>.fc false 221 [.pt [F v]]) λx _=>f x:=by
 refine⟨λx ns r b o n s y vs _ hf=>⟨rfl,Tryz.call221,?_⟩⟩;exact sY (.cons (.same _) (.cons (.ptc _) .nil)) (bQy _ _ (h hf))
theorem bTl{F:Value->D}{f:aS->Int->Option (Str×aS)}(h:∀{x p r b o n s y vs},f x p=some r->pV Tryz.prog (F (pv b o)) [.d (.lit (.int .i64 p))] (jG b o n s y vs x) (rD b o r)):aCm 1 (λv=>.fc false 223 [.pt [F v]]) λx ns=>f x (uJ ns 0):=by
 refine⟨λx ns r b o n s y vs hl hf=>⟨rfl,Tryz.call223,?_⟩⟩;exact sY (.cons (.same _) (.cons (.ptc _) .nil)) (bRy _ _ _ (aGi (k:=0) hl (by omega)) (h hf))
theorem bTm{F:Value->D}{f:aS->Int->Int->Option (Str×aS)}(h:∀{x p q r b o n s y vs},f x p q=some r->pV Tryz.prog (F (pv b o)) [.d (.lit (.int .i64 p)),.d (.lit (.int .i64 q))] (jG b o n s y vs x) (rD b o r)):aCm 2 (λv=>.fc false 225 [.pt [F v]]) λx ns=>f x (uJ ns 0) (uJ ns 1):=by
 refine⟨λx ns r b o n s y vs hl hf=>⟨rfl,Tryz.call225,?_⟩⟩;exact sY (.cons (.same _) (.cons (.ptc _) .nil)) (bSt _ _ _ _ (aGi (k:=0) hl (by omega)) (aGi (k:=1) hl (by omega)) (h hf))
theorem bTn{F:Value->D}{f:aS->Int->Int->Int->Option (Str×aS)}(h:∀{x p q t r b o n s y vs},f x p q t=some r->pV Tryz.prog (F (pv b o)) [.d (.lit (.int .i64 p)),.d (.lit (.int .i64 q)),.d (.lit (.int .i64 t))] (jG b o n s y vs x) (rD b o r)):aCm 3 (λv=>.fc false 235 [.pt [F v]]) λx ns=>f x (uJ ns 0) (uJ ns 1) (uJ ns 2):=by
 refine⟨λx ns r b o n s y vs hl hf=>⟨rfl,Tryz.call235,?_⟩⟩;exact sY (.cons (.same _) (.cons (.ptc _) .nil)) (bMy _ _ _ _ _ (aGi (k:=0) hl (by omega)) (aGi (k:=1) hl (by omega)) (aGi (k:=2) hl (by omega)) (h hf))
theorem mth{f:FuncId}{args:List AV}(he:∀args w,(callFunc f args).run Tryz.prog w=.ok (.enter f args) w)(h:bI Tryz.prog f (.d (.lit (pv b o))::args) (jG b o n s y vs x) (rD b o r)):pV Tryz.prog (.fc true f [.lit (pv b o)]) args (jG b o n s y vs x) (rD b o r):=⟨rfl,he,h⟩
theorem bRg{f:FuncId}{args:List AV}{q:D}(he:∀args w,(callFunc f args).run Tryz.prog w=.ok (.enter f args) w)(h:bI Tryz.prog f (args++[.cp [.lit (pv b o)],.cp [q]]) (jG b o n s y vs x) (rD b o r)):pV Tryz.prog (.fc false f [.pt [.lit (pv b o)],.pt [q]]) args (jG b o n s y vs x) (rD b o r):=
 ⟨rfl,he,sY (BVs.app (.cons (.ptc _) (.cons (.ptc _) .nil)) _) h⟩
end
abbrev aGz(x:aS)(r:Str×aS):Prop:=r.2.Register.Days=x.Register.Days
theorem bBe(x:aS)(k p q:Int):yI (jC x k p q) (aGz x):=by
 unfold jC
 repeat' first|exact aGm rfl|exactλ_ h=>by cases h|refine aMq λ_=>?_|refine aMr ?_ ?_
theorem bIn(x:aS)(k p q:Int):yI (mY x k p q) (aGz x):=by
 unfold mY
 repeat' first|exact aGm rfl|exactλ_ h=>by cases h|refine aMq λ_=>?_|refine aMr ?_ ?_
theorem bNi(x:aS)(p q:Int):yI (oC x p q) (aGz x):=by
 unfold oC
 repeat' first|exact aGm rfl|exactλ_ h=>by cases h|refine aMq λ_=>?_|refine aMr ?_ ?_
theorem bFb(x:aS)(p:Int):yI (mD x p) (aGz x):=by
 unfold mD
 repeat' first|exact aGm rfl|exactλ_ h=>by cases h|exact bMe (bNi _ _ _) λa h=>aGm h|refine aMq λ_=>?_|refine aMr ?_ ?_
section
variable{x:aS}{r:Str×aS}{b o:Nat}{n s y:Value}{vs:List Value}
theorem bMc{k p q:Int}(h:jC x k p q=some r):bI Tryz.prog 140 [.d (.lit (pv b o)),.d (.lit (.int .i64 k)),.d (.lit (.int .i64 p)),.d (.lit (.int .i64 q))] (jG b o n s y vs x) (rD b o r):=wr (bBe _ _ _ _ _ h) (aGq _ _ _ _ h)
theorem bGw{k:FuncId}{g:eT->Option (List Int)}(he:∀args w,(callFunc k args).run Tryz.prog w=.ok (.enter k args) w)(hk:∀e {l:List Int},g e=some l->Fn Tryz.prog k [.agg (dE e)] (.d (.sl 1 (l.map aE))))(h:ask (λx=>nE x g) x=some r):
  bI Tryz.prog 136 [.d (.lit (pv b o)),.d (.fc false k [])] (jG b o n s y vs x) (rD b o r):=
 bSg h λt ht=>aTy (args':=[.cp (bEf y x),.fn k []]) (λw X us hu=>by
  match us,hu with
  |[_,_],h=>exact⟨h.1,bUc h.2.1,trivial⟩) (aFs x g k [] he (λe l hl=>hk e hl) ht)
end
theorem bPe{k:FuncId}{g:eT->Option (List Int)}(he:∀args w,(callFunc k args).run Tryz.prog w=.ok (.enter k args) w)(hk:∀e {l:List Int},g e=some l->Fn Tryz.prog k [.agg (dE e)] (.d (.sl 1 (l.map aE)))):
  aCm 0 (λv=>.fc false 221 [.pt [.fc false 135 [.pt [.lit v],.pt [.fc false k []]]]]) λx _=>bNw g x:=
 bOd (F:=λv=>.fc false 135 [.pt [.lit v],.pt [.fc false k []]]) λh=>bRg Tryz.call135 (bLr _ _ (bGw he hk h))
theorem bPv(k:Int):aCm 2 (λv=>.fc false 225 [.pt [.fc false 143 [.pt [.lit v],.pt [.lit (.int .i64 k)]]]]) λx ns=>bOh k x (uJ ns 0) (uJ ns 1):=
 bTm (F:=λv=>.fc false 143 [.pt [.lit v],.pt [.lit (.int .i64 k)]]) λh=>bRg Tryz.call143 (bLs _ _ _ _ (bMc h))
theorem bKg:∀l∈aMe,aCm l.k l.F l.f:=by
 intro l hl;simp only[aMe,List.mem_cons,List.not_mem_nil,or_false] at hl
 rcases hl with rfl|rfl|rfl|rfl|rfl|rfl|rfl|rfl|rfl|rfl|rfl|rfl|rfl|rfl|rfl|rfl|rfl|rfl|rfl|rfl|rfl|rfl|rfl|rfl|rfl
 ·exact bPe Tryz.call147 λe _ h=>aDy _ h
 ·exact⟨λ_ _ _ _ _ _ _ _ _ _ hf=>by cases hf⟩
 ·exact⟨λ_ _ _ _ _ _ _ _ _ _ hf=>by cases hf⟩
 ·exact bOd (F:=λv=>.fc true 150 [.lit v]) λh=>mth Tryz.call150 (bSg h λ_ h=>aIn _ h)
 ·exact⟨λ_ _ _ _ _ _ _ _ _ _ hf=>by cases hf⟩
 ·exact⟨λ_ _ _ _ _ _ _ _ _ _ hf=>by cases hf⟩
 ·exact⟨λ_ _ _ _ _ _ _ _ _ _ hf=>by cases hf⟩
 ·exact⟨λ_ _ _ _ _ _ _ _ _ _ hf=>by cases hf⟩
 ·exact⟨λ_ _ _ _ _ _ _ _ _ _ hf=>by cases hf⟩
 ·exact⟨λ_ _ _ _ _ _ _ _ _ _ hf=>by cases hf⟩
 ·exact⟨λ_ _ _ _ _ _ _ _ _ _ hf=>by cases hf⟩
 ·exact⟨λ_ _ _ _ _ _ _ _ _ _ hf=>by cases hf⟩
 ·exact⟨λ_ _ _ _ _ _ _ _ _ _ hf=>by cases hf⟩
 ·exact⟨λ_ _ _ _ _ _ _ _ _ _ hf=>by cases hf⟩
 ·exact bTl (F:=λv=>.fc true 158 [.lit v]) λh=>mth Tryz.call158 (wr (bFb _ _ _ h) (aIl _ _ h))
 ·exact⟨λ_ _ _ _ _ _ _ _ _ _ hf=>by cases hf⟩
 ·exact⟨λ_ _ _ _ _ _ _ _ _ _ hf=>by cases hf⟩
 ·exact bPv 1
 ·exact⟨λ_ _ _ _ _ _ _ _ _ _ hf=>by cases hf⟩
 ·exact⟨λ_ _ _ _ _ _ _ _ _ _ hf=>by cases hf⟩
 ·exact⟨λ_ _ _ _ _ _ _ _ _ _ hf=>by cases hf⟩
 ·exact bTn (F:=λv=>.fc true 162 [.lit v]) λh=>mth Tryz.call162 (wr (bIn _ _ _ _ _ h) (aJr _ _ _ _ h))
 ·exact⟨λ_ _ _ _ _ _ _ _ _ _ hf=>by cases hf⟩
 ·exact⟨λ_ _ _ _ _ _ _ _ _ _ hf=>by cases hf⟩
 ·exact⟨λ_ _ _ _ _ _ _ _ _ _ hf=>by cases hf⟩
theorem aHw{w:Str}{v:Value}{z:List D}:∀{t:List aSk} {l:aSk},aEj w t=some l->l∈t/\cN w (t.map λl=>(l.word,[.lit (.int .i64 l.k),l.F v]))=true/\aR w z (t.map λl=>(l.word,[.lit (.int .i64 l.k),l.F v]))=[.lit (.int .i64 l.k),l.F v]
 |[],l,h=>by cases h
 | l0::t,l,h=>by
  simp only[aEj] at h;simp only[List.map_cons,cN,aR];cases hc:decide (w=l0.word) with
  |true=>rw[hc] at h;cases h;exact⟨List.mem_cons_self,by simp,rfl⟩
  | false=>
   rw[hc] at h;obtain⟨h1,h2,h3⟩:=aHw (v:=v) (z:=z) h;exact⟨List.mem_cons_of_mem _ h1,by simp[h2],h3⟩
theorem aBz{w:Str}{v:Value}{z:List D}:∀{t:List aSk},aEj w t=none->cN w (t.map λl=>(l.word,[.lit (.int .i64 l.k),l.F v]))=false/\aR w z (t.map λl=>(l.word,[.lit (.int .i64 l.k),l.F v]))=z
 |[],h=>⟨rfl,rfl⟩
 | l0::t,h=>by
  simp only[aEj] at h;simp only[List.map_cons,cN,aR];cases hc:decide (w=l0.word) with
  |true=>rw[hc] at h;cases h
  | false=>
   rw[hc] at h;obtain⟨h1,h2⟩:=aBz (v:=v) (z:=z) h;exact⟨by simp[h1],h2⟩
theorem aAk(v:Value):yV v=aMe.map λl=>(l.word,[.lit (.int .i64 l.k),l.F v]):=rfl
theorem aGp(x:aS)(line:Str){r:Str×aS}{b o:Nat}{n s y:Value}{vs:List Value}(h:yF x line=some r):
  bI Tryz.prog 44 [.bp b o 0,.d (.lit (.string ⟨line.toArray⟩))] (jG b o n s y vs x) (rD b o r):=by
 refine aTy (args':=[.d (.lit (pv b o)),.d (.lit (sv line))]) (λw X us hu=>by
  match us,hu with
  |[_,_],⟨h1,h2,_⟩=>exact⟨by cases h1;exact .d (.lit _ rfl),h2,trivial⟩) ?_
 obtain⟨p,hp,h⟩:=bind_some h;obtain⟨word,ns,is⟩:=p;have hp:=aRr _ hp;have bad:some (([63]:Str),x)=some r->∀r' o',r'=AV.d (.lit (sv [63]))/\o'=jG b o n s y vs x->rD b o r r' o':=by
  rintro e r' o' ⟨rfl,rfl⟩;cases e;exact⟨rfl,n,s,y,vs,rfl⟩
 cases is with
 | false=>
  cases hl:aEj word aMe with
  |none=>exact oW (bBs (pv b o) line word ns _ 0 (.lit .nilFunc) hp rfl (by rw[aAk];exact(aBz hl).2)) (bad h)
  |some l=>exact oW (bBs (pv b o) line word ns _ l.k (l.F (pv b o)) hp rfl (by rw[aAk];exact(aHw hl).2.2)) (bad h)
 | true=>
  dsimp only at h
  cases hl:aEj word aMe with
  | none=>
   rw[hl] at h;exact oW (bAx (pv b o) line word ns 0 (.lit .nilFunc) hp (by rw[aAk];exact(aBz (z:=aFo) hl).1) (by rw[aAk];exact(aBz hl).2)) (bad h)
  | some l=>
   rw[hl] at h
   dsimp only at h
   obtain⟨h1,h2,h3⟩:=aHw (v:=pv b o) (z:=aFo) hl
   by_cases hk:ns.length=l.k
   ·rw[decide_eq_true hk] at h;exact bOv (pv b o) line word ns l.k (l.F (pv b o)) hp (by rw[aAk];exact h2) (by rw[aAk];exact h3) (by rw[hk]) ((bKg l h1).h x ns b o n s y vs hk h)
   ·rw[decide_eq_false hk] at h;exact oW (bKc (pv b o) line word ns l.k (l.F (pv b o)) hp (by rw[aAk];exact h2) (by rw[aAk];exact h3) (by omega)) (bad h)
end Go.Am
