/- The desk's lines: what each of them answers. -/
import Derived.Test.YtammglnfelkbpaaGreatDoorXSim
import Derived.Test.YtammglnfelkbpaaGreatDoorRfClo
import Derived.Test.YtammglnfelkbpaaGreatDoorRfDesk1
import Derived.Test.YtammglnfelkbpaaGreatDoorAmLend
namespace Go.Am
open Go.Proofs
set_option maxRecDepth 100000
set_option maxHeartbeats 4000000
attribute [local instance] aCj
def cDp(y:Value)(x:aJ):List D:=[.lit (.int .i64 x.Desk.Field.Places),.lit (.int .i64 x.Desk.Field.Wilds),.lit (.int .i64 x.Desk.Field.Guards),.lit (.int .i64 x.Desk.Field.Close),.lit (.int .i64 x.Desk.Field.Freeze),.lit (.int .i64 x.Desk.Tree.Rounds),.sl 1 (x.Desk.Tree.Slots.map aP),.lit (.int .i64 x.Desk.Format.Sets),.lit (.int .i64 x.Desk.Format.Games),.lit (.bool x.Desk.Format.NoAd),.lit (.int .i64 x.Desk.Format.Tie),.lit (.int .i64 x.Desk.Format.To),.lit (.int .i64 x.Desk.Format.LastTie),.lit (.int .i64 x.Desk.Format.LastTo),.lit (.int .i64 x.Desk.Format.First),.lit (.int .i64 x.Desk.Format.Then),.lit (.bool x.Desk.Format.Doubles),.sl 1 (x.Desk.Days.map aO),.lit (.int .i64 x.Desk.Rest),.sl 3 (x.Desk.Stages.map fR),.lit (.int .i64 x.Register.Hour),.sl 5 (x.Register.Notices.map cY),.sl 5 (x.Register.Slips.map aL),.lit (.int .i64 x.Register.Round),.lit (.int .i64 x.Register.Place),.lit (.int .i64 x.Register.First),.sl 1 (x.Register.Points.map aP),.lit y,.lit (.int .i64 x.bout.Round),.lit (.int .i64 x.bout.Place),.lit (.int .i64 x.bout.One),.lit (.int .i64 x.bout.Two)]
section
variable{b o:Nat}{n s y:Value}{vs:List Value}{x:aJ}
theorem bAq{fs:List MO}{l xs ys:List D}(h:DVs fs xs ys):DVs fs (l++xs) (l++ys):=by
 induction l with
 |nil=>exact h
 |cons a l ih=>exact⟨.same _,ih⟩
theorem cJp:BV (lP b o n s y vs x) (.bp b o 0) (.cp (cDp y x)):=
 aTi 0 rfl rfl (bAq (l:=(aBy n s y x).take 21) (dvc (vT 1 rfl (gB (f:=cY) λ_=>rfl)) (dvc (vT 2 rfl (gB (f:=aL) λ_=>rfl)) (bAq (l:=(aBy n s y x).drop 23) (xs:=[]) (ys:=[]) trivial))))
theorem cFn:BV (lP b o n s y vs x) (.bp b o 0) (.cp (yO x)):=
 aTi 0 rfl rfl (bAq (l:=(aBy n s y x).take 21) (dvc (vT 1 rfl (gB (f:=cY) λ_=>rfl)) (dvc (vT 2 rfl (gB (f:=aL) λ_=>rfl)) (dvc (.same _) (dvc (.same _) (dvc (.same _) (dvc (.same _) (dvc (bUw 3 4 rfl rfl (h:=aO) (λ_=>rfl)) (bAq (l:=(aBy n s y x).drop 28) (xs:=[]) (ys:=[]) trivial)))))))))
end
def wN(b o:Nat)(r:Str×aJ)(r':AV)(o':List MO):Prop:=r'=.d (.lit (.string ⟨r.1.toArray⟩))/\∃n s y vs,o'=lP b o n s y vs r.2
structure aQw(k:Nat)(F:Value->D)(f:aJ->List Int->Option (Str×aJ)):Prop where
 h:∀(x:aJ) (ns:List Int) {r:Str×aJ} (b o:Nat) (n s y:Value) (vs:List Value),ns.length=k->f x ns=some r->wX Tryz.prog (F (.pointer (some ⟨b,o,none⟩))) [.d (.sl 1 (ns.map aP))] (lP b o n s y vs x) (wN b o r)
abbrev pv(b o:Nat):Value:=.pointer (some ⟨b,o,none⟩)
theorem cOy{f:FuncId}{args:List AV}{g:Option Str}{x:aJ}{r:Str×aJ}{b o:Nat}{n s y:Value}{vs:List Value}(h:g.map (λs=>(s,x))=some r)(hc:∀s,g=some s->Fn Tryz.prog f (.cp (cDp y x)::args) (.d (.lit (.string ⟨s.toArray⟩)))):
  aX Tryz.prog f (.d (.lit (pv b o))::args) (lP b o n s y vs x) (wN b o r):=by
 cases hg:g with
 |none=>rw[hg] at h;cases h
 | some t=>
  rw[hg] at h;cases h;refine wZ (.cons (.lbp b o) (BVs.refl _ _)) ?_;refine aHg (aUt (.cons cJp (BVs.refl _ _)) (hc t hg) (λr o h=>h.1▸rfl)) ?_;rintro r' o' ⟨rfl,_,rfl,_⟩;exact⟨rfl,n,s,y,vs,rfl⟩
theorem cOx{f:FuncId}{args:List AV}{g:Option Str}{x:aJ}{r:Str×aJ}{b o:Nat}{n s y:Value}{vs:List Value}(h:g.map (λs=>(s,x))=some r)(hc:∀s,g=some s->Fn Tryz.prog f (.cp (yO x)::args) (.d (.lit (.string ⟨s.toArray⟩)))):
  aX Tryz.prog f (.d (.lit (pv b o))::args) (lP b o n s y vs x) (wN b o r):=by
 cases hg:g with
 |none=>rw[hg] at h;cases h
 | some t=>
  rw[hg] at h;cases h;refine wZ (.cons (.lbp b o) (BVs.refl _ _)) ?_;refine aHg (aUt (.cons cFn (BVs.refl _ _)) (hc t hg) (λr o h=>h.1▸rfl)) ?_;rintro r' o' ⟨rfl,_,rfl,_⟩;exact⟨rfl,n,s,y,vs,rfl⟩
theorem wr{f:FuncId}{args:List AV}{x:aJ}{r:Str×aJ}{b o:Nat}{n s y:Value}{vs:List Value}(hd:r.2.Register.Days=x.Register.Days)
  (hc:aX Tryz.prog f (.bp b o 0::args) ((lP b o n s y vs x).take 3) (λr' o'=>∃n s,r'=.d (.lit (.string ⟨r.1.toArray⟩))/\o'=(lP b o n s y vs r.2).take 3)):
  aX Tryz.prog f (.d (.lit (pv b o))::args) (lP b o n s y vs x) (wN b o r):=by
 refine wZ (.cons (.lbp b o) (BVs.refl _ _)) ?_;refine aHg (bGo ((lP b o n s y vs x).drop 3) hc) ?_;rintro r' o' ⟨_,⟨n,s,rfl,rfl⟩,rfl⟩;refine⟨rfl,n,s,y,vs,?_⟩;simp only[lP,List.take,List.drop,aA4,aG4,hd]
section
variable{x:aJ}{r:Str×aJ}{b o:Nat}{n s y:Value}{vs:List Value}
theorem aYz{ns:List Int}{k m:Nat}(h:ns.length=m)(hk:k<m):idx ns (k:Int)=some (aGk ns k):=by
 have hk':k<ns.length:=by omega
 simp[idx,aGk,List.getD,hk']
theorem cEb{F:Value->D}{f:aJ->Option (Str×aJ)}(h:∀{x r b o n s y vs},f x=some r->wX Tryz.prog (F (pv b o)) [] (lP b o n s y vs x) (wN b o r)):aQw 0 (λv=>.fc false 178 [.pt [F v]]) λx _=>f x:=by
 refine⟨λx ns r b o n s y vs _ hf=>⟨rfl,Tryz.call178,?_⟩⟩;exact wZ (.cons (.same _) (.cons (.ptc _) .nil)) (cIr _ _ (h hf))
theorem cEc{F:Value->D}{f:aJ->Int->Option (Str×aJ)}(h:∀{x p r b o n s y vs},f x p=some r->wX Tryz.prog (F (pv b o)) [.d (.lit (.int .i64 p))] (lP b o n s y vs x) (wN b o r)):aQw 1 (λv=>.fc false 181 [.pt [F v]]) λx ns=>f x (aGk ns 0):=by
 refine⟨λx ns r b o n s y vs hl hf=>⟨rfl,Tryz.call181,?_⟩⟩;exact wZ (.cons (.same _) (.cons (.ptc _) .nil)) (cKv _ _ _ (aYz (k:=0) hl (by omega)) (h hf))
theorem cNd{F:Value->D}{f:aJ->Int->Int->Int->Option (Str×aJ)}(h:∀{x p q t r b o n s y vs},f x p q t=some r->wX Tryz.prog (F (pv b o)) [.d (.lit (.int .i64 p)),.d (.lit (.int .i64 q)),.d (.lit (.int .i64 t))] (lP b o n s y vs x) (wN b o r)):aQw 3 (λv=>.fc false 196 [.pt [F v]]) λx ns=>f x (aGk ns 0) (aGk ns 1) (aGk ns 2):=by
 refine⟨λx ns r b o n s y vs hl hf=>⟨rfl,Tryz.call196,?_⟩⟩;exact wZ (.cons (.same _) (.cons (.ptc _) .nil)) (cCq _ _ _ _ _ (aYz (k:=0) hl (by omega)) (aYz (k:=1) hl (by omega)) (aYz (k:=2) hl (by omega)) (h hf))
theorem mth{f:FuncId}{args:List AV}(he:∀args w,(callFunc f args).run Tryz.prog w=.ok (.enter f args) w)(h:aX Tryz.prog f (.d (.lit (pv b o))::args) (lP b o n s y vs x) (wN b o r)):wX Tryz.prog (.fc true f [.lit (pv b o)]) args (lP b o n s y vs x) (wN b o r):=⟨rfl,he,h⟩
theorem cOh{f:FuncId}{args:List AV}{q:D}(he:∀args w,(callFunc f args).run Tryz.prog w=.ok (.enter f args) w)(h:aX Tryz.prog f (args++[.cp [.lit (pv b o)],.cp [q]]) (lP b o n s y vs x) (wN b o r)):wX Tryz.prog (.fc false f [.pt [.lit (pv b o)],.pt [q]]) args (lP b o n s y vs x) (wN b o r):=
 ⟨rfl,he,wZ (BVs.app (.cons (.ptc _) (.cons (.ptc _) .nil)) _) h⟩
end
abbrev aNk(x:aJ)(r:Str×aJ):Prop:=r.2.Register.Days=x.Register.Days
theorem bWj(x:aJ)(k p q:Int):aDy (lG x k p q) (aNk x):=by
 unfold lG
 repeat' first|exact aIe rfl|exactλ_ h=>by cases h|refine aTt λ_=>?_|refine aTu ?_ ?_
theorem bLb(x:aJ)(p q:Int):aDy (lY x p q) (aNk x):=by
 unfold lY
 repeat' first|exact aIe rfl|exactλ_ h=>by cases h|refine aTt λ_=>?_|refine aTu ?_ ?_
theorem bRx(x:aJ)(p:Int):aDy (oY x p) (aNk x):=by
 unfold oY
 repeat' first|exact aIe rfl|exactλ_ h=>by cases h|exact bJg (bLb _ _ _) λa h=>aIe h|refine aTt λ_=>?_|refine aTu ?_ ?_
theorem bMb(x:aJ)(p q:Int):aDy (fW x p q) (aNk x):=by
 unfold fW
 repeat' first|exact aIe rfl|exactλ_ h=>by cases h|exact bJg (bLb _ _ _) λa h=>aIe h|refine aTt λ_=>?_|refine aTu ?_ ?_
section
variable{x:aJ}{r:Str×aJ}{b o:Nat}{n s y:Value}{vs:List Value}
theorem cBb{p q:Int}(h:fW x p q=some r):aX Tryz.prog 116 [.d (.lit (pv b o)),.d (.lit (.int .i64 p)),.d (.lit (.int .i64 q))] (lP b o n s y vs x) (wN b o r):=wr (bMb _ _ _ _ h) (aMw _ _ _ h)
end
theorem cBa(k:Int):aQw 1 (λv=>.fc false 181 [.pt [.fc false 115 [.pt [.lit v],.pt [.lit (.int .i64 k)]]]]) λx ns=>bVp k x (aGk ns 0):=
 cEc (F:=λv=>.fc false 115 [.pt [.lit v],.pt [.lit (.int .i64 k)]]) λh=>cOh Tryz.call115 (cAn _ _ _ (cBb h))
theorem bZh:∀l∈aYk,aQw l.k l.F l.f:=by
 intro l hl;simp only[aYk,l4,List.not_mem_nil,or_false] at hl
 rcases hl with rfl|rfl|rfl|rfl|rfl|rfl|rfl|rfl|rfl|rfl|rfl|rfl|rfl|rfl|rfl|rfl|rfl|rfl|rfl|rfl|rfl|rfl|rfl|rfl|rfl
 ·exact⟨λ_ _ _ _ _ _ _ _ _ _ hf=>by cases hf⟩
 ·exact⟨λ_ _ _ _ _ _ _ _ _ _ hf=>by cases hf⟩
 ·exact⟨λ_ _ _ _ _ _ _ _ _ _ hf=>by cases hf⟩
 ·exact⟨λ_ _ _ _ _ _ _ _ _ _ hf=>by cases hf⟩
 ·exact⟨λ_ _ _ _ _ _ _ _ _ _ hf=>by cases hf⟩
 ·exact cEb (F:=λv=>.fc true 122 [.lit v]) λh=>mth Tryz.call122 (cOy h λ_ h=>aQq _ h)
 ·exact cEb (F:=λv=>.fc true 123 [.lit v]) λh=>mth Tryz.call123 (cOx h λ_ h=>(aQp _).h _ h)
 ·exact⟨λ_ _ _ _ _ _ _ _ _ _ hf=>by cases hf⟩
 ·exact⟨λ_ _ _ _ _ _ _ _ _ _ hf=>by cases hf⟩
 ·exact⟨λ_ _ _ _ _ _ _ _ _ _ hf=>by cases hf⟩
 ·exact⟨λ_ _ _ _ _ _ _ _ _ _ hf=>by cases hf⟩
 ·exact⟨λ_ _ _ _ _ _ _ _ _ _ hf=>by cases hf⟩
 ·exact⟨λ_ _ _ _ _ _ _ _ _ _ hf=>by cases hf⟩
 ·exact⟨λ_ _ _ _ _ _ _ _ _ _ hf=>by cases hf⟩
 ·exact cEc (F:=λv=>.fc true 128 [.lit v]) λh=>mth Tryz.call128 (wr (bRx _ _ _ h) (aPi _ _ h))
 ·exact cBa 3
 ·exact⟨λ_ _ _ _ _ _ _ _ _ _ hf=>by cases hf⟩
 ·exact⟨λ_ _ _ _ _ _ _ _ _ _ hf=>by cases hf⟩
 ·exact⟨λ_ _ _ _ _ _ _ _ _ _ hf=>by cases hf⟩
 ·exact⟨λ_ _ _ _ _ _ _ _ _ _ hf=>by cases hf⟩
 ·exact⟨λ_ _ _ _ _ _ _ _ _ _ hf=>by cases hf⟩
 ·exact cNd (F:=λv=>.fc true 132 [.lit v]) λh=>mth Tryz.call132 (wr (bWj _ _ _ _ _ h) (aQr _ _ _ _ h))
 ·exact⟨λ_ _ _ _ _ _ _ _ _ _ hf=>by cases hf⟩
 ·exact⟨λ_ _ _ _ _ _ _ _ _ _ hf=>by cases hf⟩
 ·exact⟨λ_ _ _ _ _ _ _ _ _ _ hf=>by cases hf⟩
theorem aZh{w:Str}{v:Value}{z:List D}:∀{t:List bBf} {l:bBf},aOk w t=some l->l∈t/\cR w (t.map λl=>(l.word,[.lit (.int .i64 l.k),l.F v]))=true/\bW w z (t.map λl=>(l.word,[.lit (.int .i64 l.k),l.F v]))=[.lit (.int .i64 l.k),l.F v]
 |[],l,h=>by cases h
 | l0::t,l,h=>by
  simp only[aOk] at h;simp only[j3,cR,bW];cases hc:decide (w=l0.word) with
  |true=>rw[hc] at h;cases h;exact⟨aD6,by simp,rfl⟩
  | false=>
   rw[hc] at h;obtain⟨h1,h2,h3⟩:=aZh (v:=v) (z:=z) h;exact⟨j5 _ h1,by simp[h2],h3⟩
theorem aOl{w:Str}{v:Value}{z:List D}:∀{t:List bBf},aOk w t=none->cR w (t.map λl=>(l.word,[.lit (.int .i64 l.k),l.F v]))=false/\bW w z (t.map λl=>(l.word,[.lit (.int .i64 l.k),l.F v]))=z
 |[],h=>⟨rfl,rfl⟩
 | l0::t,h=>by
  simp only[aOk] at h;simp only[j3,cR,bW];cases hc:decide (w=l0.word) with
  |true=>rw[hc] at h;cases h
  | false=>
   rw[hc] at h;obtain⟨h1,h2⟩:=aOl (v:=v) (z:=z) h;exact⟨by simp[h1],h2⟩
theorem aZs(v:Value):aWt v=aYk.map λl=>(l.word,[.lit (.int .i64 l.k),l.F v]):=rfl
theorem aMv(x:aJ)(line:Str){r:Str×aJ}{b o:Nat}{n s y:Value}{vs:List Value}(h:cX x line=some r):
  aX Tryz.prog 33 [.bp b o 0,.d (.lit (.string ⟨line.toArray⟩))] (lP b o n s y vs x) (wN b o r):=by
 refine bTu (args':=[.d (.lit (pv b o)),.d (.lit (sv line))]) (λw X us hu=>by
  match us,hu with
  |[_,_],⟨h1,h2,_⟩=>exact⟨by cases h1;exact .d (.lit _ rfl),h2,trivial⟩) ?_
 obtain⟨p,hp,h⟩:=bind_some h;obtain⟨word,ns,is⟩:=p;have hp:=(bAg _).h _ hp;have bad:some (([63]:Str),x)=some r->wN b o r (.d (.lit (sv [63]))) (lP b o n s y vs x):=by
  rintro e;cases e;exact⟨rfl,n,s,y,vs,rfl⟩
 cases hl:aOk word aYk with
 |none=>exact cDl (pv b o) line word ns is false 0 (.lit .nilFunc) hp (by rw[aZs];exact(aOl (z:=bRn) hl).1) (by rw[aZs];exact(aOl hl).2) (λ_=>by cases is<;>simp only[hl] at h<;>exact bad h) (λe=>by simp at e)
 | some l=>
  obtain⟨h1,h2,h3⟩:=aZh (v:=pv b o) (z:=bRn) hl;refine cDl (pv b o) line word ns is true l.k (l.F (pv b o)) hp (by rw[aZs];exact h2) (by rw[aZs];exact h3) (λe=>?_) (λe=>?_)
  ·cases is with
   |false=>exact bad h
   | true=>
    have hk:¬ns.length=l.k:=λhk=>by simp[hk] at e
    simp only[hl,j6 hk] at h;exact bad h
  ·simp only[w9,f4,l9] at e;have hk:ns.length=l.k:=by have:=e.2;omega
   obtain⟨rfl,_⟩:=e;simp only[hl,n7 hk] at h;exact(bZh l h1).h x ns b o n s y vs hk h
end Go.Am
