/- The program logic 'Am': families of growable slices (slices of slices that the call owns). -/
import Derived.Test.YtiohgpipanopaaaGreatAmClose
namespace Go.Am
def yA:Value:=.slice none 0 0
theorem bVo{w:World}{X:bH}{e k j:Nat}{vs:List Value}{rss:List (List (List D))}{v:Value}{rows:List (List D)}(h:(MO.fam e k vs rss).holds w X)(hv:vs[j]?=some v)(hr:rss[j]?=some rows):
  (MO.fam e k (vs.set j yA) (rss.set j [])).holds w X/\(MO.arr v e k rows).holds w X/\∀b,v.ownBlock=some b->∀u∈vs.set j yA,u.ownBlock≠some b:=by
 obtain⟨hl,hs,hh⟩:=h;have hj:=(List.getElem?_eq_some_iff.1 hv).1;have hjv:=(List.getElem?_eq_some_iff.1 hv).2;have hp:=List.pairwise_iff_getElem.1 hs;refine⟨⟨by simpa using hl,List.pairwise_iff_getElem.2 λa b ha hb hab x hx hy=>?_,λi u us hu hus=>?_⟩,hh j v rows hv hr,λb hb u hu hub=>?_⟩
 ·simp only[List.length_set] at ha hb;simp only[List.getElem_set] at hx hy;split at hx
  ·cases hx
  ·split at hy
   ·cases hy
   ·exact hp a b ha hb hab x hx hy
 ·by_cases e1:j=i
  ·subst e1;rw[List.getElem?_set_self (by omega)] at hus;rw[List.getElem?_set_self hj] at hu;cases hu;cases hus;exact⟨[],trivial,⟨by simp,.inl ⟨rfl,rfl⟩⟩,by simp⟩
  ·rw[List.getElem?_set_ne e1] at hu hus;exact hh i u us hu hus
 ·obtain⟨i,hi,rfl⟩:=List.getElem_of_mem hu;simp only[List.length_set] at hi;rw[List.getElem_set] at hub;split at hub
  ·cases hub
  ·rename_i hne
   rcases Nat.lt_trichotomy i j with h1|h1|h1
   ·exact hp i j hi hj h1 b hub (hjv▸hb)
   ·exact hne h1.symm
   ·exact hp j i hj hi h1 b (hjv▸hb) hub
theorem bYb{w:World}{X:bH}{e k j:Nat}{vs:List Value}{rss:List (List (List D))}{v:Value}{rows:List (List D)}(hj:j<vs.length)(h:(MO.fam e k (vs.set j yA) (rss.set j [])).holds w X)(ha:(MO.arr v e k rows).holds w X)
  (hd:∀b,v.ownBlock=some b->∀u∈vs.set j yA,u.ownBlock≠some b):(MO.fam e k (vs.set j v) (rss.set j rows)).holds w X:=by
 obtain⟨hl,hs,hh⟩:=h;simp only[List.length_set] at hl;have hp:=List.pairwise_iff_getElem.1 hs;have hother:∀i (hi:i<vs.length),j≠i->vs[i]∈vs.set j yA:=by
  intro i hi hne;have:(vs.set j yA)[i]'(by simpa using hi)=vs[i]:=by rw[List.getElem_set_ne hne]
  rw[<-this];exact List.getElem_mem _
 refine⟨by simpa using hl,List.pairwise_iff_getElem.2 λa b ha' hb' hab x hx hy=>?_,λi u us hu hus=>?_⟩
 ·simp only[List.length_set] at ha' hb';simp only[List.getElem_set] at hx hy;split at hx
  ·rename_i h1
   split at hy
   ·omega
   ·rename_i h2
    exact hd x hx _ (hother b hb' h2) hy
  ·rename_i h1
   split at hy
   ·exact hd x hy _ (hother a ha' h1) hx
   ·rename_i h2
    refine hp a b (by simpa using ha') (by simpa using hb') hab x ?_ ?_
    ·rw[List.getElem_set_ne h1];exact hx
    ·rw[List.getElem_set_ne h2];exact hy
 ·by_cases e1:j=i
  ·subst e1;rw[List.getElem?_set_self (by omega)] at hus;rw[List.getElem?_set_self hj] at hu;cases hu;cases hus;exact ha
  ·have h1:=hh i u us;rw[List.getElem?_set_ne e1] at hu hus;rw[List.getElem?_set_ne e1,List.getElem?_set_ne e1] at h1;exact h1 hu hus
theorem bHe{vs:List Value}{j:Nat}{v u:Value}{b:Nat}(hu:u∈vs.set j v)(hb:u.ownBlock=some b):v.ownBlock=some b\/∃u∈vs,u.ownBlock=some b:=by
 rcases List.mem_or_eq_of_mem_set hu with h|rfl
 ·exact .inr ⟨u,h,hb⟩
 ·exact .inl hb
theorem bNl{env:Nat->AV}{objs:List MO}{i:Nat}{m m1 m2:MO}(ho:objs[i]?=some m)(h1:∀b o,m1.foot b o->m.foot b o)(h2:∀b o,m2.foot b o->m.foot b o)
  (hh:∀w X,m.holds w X->m1.holds w X/\m2.holds w X/\∀b o,m2.foot b o->¬m1.foot b o):Ent ⟨env,objs⟩ ⟨env,objs.set i m1++[m2]⟩:=by
 intro A M w0 n a w hR;have hmi:m∈objs:=List.mem_of_getElem? ho;have hil:=(List.getElem?_eq_some_iff.1 ho).1;have hie:=(List.getElem?_eq_some_iff.1 ho).2;have hsep:=List.pairwise_iff_getElem.1 hR.inv.sep;obtain⟨k1,k2,k3⟩:=hh w _ (hR.inv.holds m hmi);refine hR.change (Z:=λ_ _=>False) (Keeps.refl _ _) (λ_ _ h=>h.elim) (λb o _ hx=>?_) ?_ λhm x hx=>?_
 ·obtain⟨x,hx,hf⟩:=hx
  rcases List.mem_append.1 hx with h|h
  ·rcases List.mem_or_eq_of_mem_set h with h|rfl
   ·exact⟨x,h,hf⟩
   ·exact⟨m,hmi,h1 _ _ hf⟩
  ·simp at h;subst h;exact⟨m,hmi,h2 _ _ hf⟩
 ·refine List.pairwise_append.2 ⟨List.pairwise_iff_getElem.2 λp q hp hq hpq b o hpf hqf=>?_,by simp,λx hx y hy b o hxf hyf=>?_⟩
  ·simp only[List.length_set] at hp hq;simp only[List.getElem_set] at hpf hqf;split at hpf
   ·rename_i hip
    split at hqf
    ·omega
    ·subst hip;exact hsep i q hp hq hpq b o (by rw[hie];exact h1 _ _ hpf) hqf
   ·split at hqf
    ·rename_i hiq
     subst hiq;exact hsep p i hp hq hpq b o hpf (by rw[hie];exact h1 _ _ hqf)
    ·exact hsep p q hp hq hpq b o hpf hqf
  ·simp at hy;subst hy
   obtain⟨p,hp,rfl⟩:=List.getElem_of_mem hx;simp only[List.length_set] at hp;rw[List.getElem_set] at hxf;split at hxf
   ·exact k3 b o hyf hxf
   ·rename_i hne
    rcases Nat.lt_trichotomy p i with h|h|h
    ·exact hsep p i hp hil h b o hxf (by rw[hie];exact h2 _ _ hyf)
    ·exact hne h.symm
    ·exact hsep i p hil hp h b o (by rw[hie];exact h2 _ _ hyf) hxf
 ·rcases List.mem_append.1 hx with h|h
  ·rcases List.mem_or_eq_of_mem_set h with h|rfl
   ·exact bY (hR.inv.holds x h) (Z:=λ_ _=>False) (Keeps.refl _ _) (λ_ _ _ h=>h) hm
   ·exact bY k1 (Z:=λ_ _=>False) (Keeps.refl _ _) (λ_ _ _ h=>h) hm
  ·simp at h;subst h
   exact bY k2 (Z:=λ_ _=>False) (Keeps.refl _ _) (λ_ _ _ h=>h) hm
theorem aZz{env:Nat->AV}{objs:List MO}{i:Nat}{m m1 m2:MO}(ho:objs[i]?=some m1)(hf:∀b o,m.foot b o->m1.foot b o\/m2.foot b o)
  (hh:∀w X,m1.holds w X->m2.holds w X->(∀b o,m2.foot b o->¬m1.foot b o)->m.holds w X):Ent ⟨env,objs++[m2]⟩ ⟨env,objs.set i m⟩:=by
 intro A M w0 n a w hR;have hmi:m1∈objs:=List.mem_of_getElem? ho;have hil:=(List.getElem?_eq_some_iff.1 ho).1;have hie:=(List.getElem?_eq_some_iff.1 ho).2;obtain⟨s1,_,s3⟩:=List.pairwise_append.1 hR.inv.sep;have hsep:=List.pairwise_iff_getElem.1 s1;have hdis:∀x∈objs,∀b o,x.foot b o->¬m2.foot b o:=λx hx b o h h'=>s3 x hx m2 (by simp) b o h h';have k:=hh w _ (hR.inv.holds m1 (List.mem_append.2 (.inl hmi))) (hR.inv.holds m2 (by simp)) λb o h2 h1=>hdis m1 hmi b o h1 h2;refine hR.change (Z:=λ_ _=>False) (Keeps.refl _ _) (λ_ _ h=>h.elim) (λb o _ hx=>?_) ?_ λhm x hx=>?_
 ·obtain⟨x,hx,hxf⟩:=hx
  rcases List.mem_or_eq_of_mem_set hx with h|rfl
  ·exact⟨x,List.mem_append.2 (.inl h),hxf⟩
  ·rcases hf _ _ hxf with h|h
   ·exact⟨m1,List.mem_append.2 (.inl hmi),h⟩
   ·exact⟨m2,by simp,h⟩
 ·refine List.pairwise_iff_getElem.2 λp q hp hq hpq b o hpf hqf=>?_;simp only[List.length_set] at hp hq;simp only[List.getElem_set] at hpf hqf;split at hpf
  ·rename_i hip
   split at hqf
   ·omega
   ·subst hip
    rcases hf _ _ hpf with h|h
    ·exact hsep i q hp hq hpq b o (by rw[hie];exact h) hqf
    ·exact hdis _ (List.getElem_mem hq) b o hqf h
  ·split at hqf
   ·rename_i hiq
    subst hiq
    rcases hf _ _ hqf with h|h
    ·exact hsep p i hp hq hpq b o hpf (by rw[hie];exact h)
    ·exact hdis _ (List.getElem_mem hp) b o hpf h
   ·exact hsep p q hp hq hpq b o hpf hqf
 ·rcases List.mem_or_eq_of_mem_set hx with h|rfl
  ·exact bY (hR.inv.holds x (List.mem_append.2 (.inl h))) (Z:=λ_ _=>False) (Keeps.refl _ _) (λ_ _ _ h=>h) hm
  ·exact bY k (Z:=λ_ _=>False) (Keeps.refl _ _) (λ_ _ _ h=>h) hm
section
variable{env:Nat->AV}{objs:List MO}{i e k j:Nat}{vs:List Value}{rss:List (List (List D))}{v:Value}{rows:List (List D)}
theorem bNk(ho:objs[i]?=some (.fam e k vs rss))(hv:vs[j]?=some v)(hr:rss[j]?=some rows):
  Ent ⟨env,objs⟩ ⟨env,objs.set i (.fam e k (vs.set j yA) (rss.set j []))++[.arr v e k rows]⟩:=
 bNl ho (λb o ⟨u,hu,hb⟩=>by
  rcases bHe hu hb with h|h
  ·cases h
  ·exact h) (λb o hf=>⟨v,List.mem_of_getElem? hv,hf⟩) λw X h=>by
  obtain⟨h1,h2,h3⟩:=bVo h hv hr;exact⟨h1,h2,λb o hf ⟨u,hu,hb⟩=>h3 b hf u hu hb⟩
theorem bGy(ho:objs[i]?=some (.fam e k (vs.set j yA) (rss.set j [])))(hj:j<vs.length):Ent ⟨env,objs++[.arr v e k rows]⟩ ⟨env,objs.set i (.fam e k (vs.set j v) (rss.set j rows))⟩:=
 aZz ho (λb o ⟨u,hu,hb⟩=>by
  obtain⟨q,hq,rfl⟩:=List.getElem_of_mem hu;simp only[List.length_set] at hq;rw[List.getElem_set] at hb;split at hb
  ·exact .inr hb
  ·rename_i hne
   refine .inl ⟨vs[q],?_,hb⟩;have:(vs.set j yA)[q]'(by simpa using hq)=vs[q]:=by rw[List.getElem_set_ne hne]
   rw[<-this];exact List.getElem_mem _) λw X h1 h2 h3=>bYb hj h1 h2 λb hb u hu hub=>h3 b 0 hb ⟨u,hu,hub⟩
theorem bRa(ho:objs[i]?=some (.fam e k vs rss)):Ent ⟨env,objs++[.arr v e k rows]⟩ ⟨env,objs.set i (.fam e k (vs++[v]) (rss++[rows]))⟩:=
 aZz ho (λb o ⟨u,hu,hb⟩=>by
  rcases List.mem_append.1 hu with h|h
  ·exact .inl ⟨u,h,hb⟩
  ·simp at h;subst h;exact .inr hb) λw X h1 h2 h3=>by
  obtain⟨hl,hs,hh⟩:=h1;refine⟨by simp[hl],List.pairwise_append.2 ⟨hs,by simp,λa ha b hb x hx hy=>?_⟩,λq u us hu hus=>?_⟩
  ·simp at hb;subst hb
   exact h3 x 0 hy ⟨a,ha,hx⟩
  ·by_cases hq:q<vs.length
   ·rw[List.getElem?_append_left hq] at hu;rw[List.getElem?_append_left (by omega)] at hus;exact hh q u us hu hus
   ·have hq2:=(List.getElem?_eq_some_iff.1 hu).1
    simp at hq2
    have:q=vs.length:=by omega
    subst this;rw[List.getElem?_append_right (Nat.le_refl _)] at hu;rw[hl,List.getElem?_append_right (Nat.le_refl _)] at hus
    simp at hu hus
    subst hu;subst hus;exact h2
theorem bKm(e k:Nat):Ent ⟨env,objs⟩ ⟨env,objs++[.fam e k [] []]⟩:=by
 intro A M w0 n a w hR;exact hR.add (w':=w) (m:=.fam e k [] []) (Keeps.refl _ _) (λb o hf=>by obtain⟨v,hv,_⟩:=hf;cases hv)
  (λhm=>⟨rfl,List.Pairwise.nil,λi v rows hv _=>by simp at hv⟩)
end
section
variable{P:Program}{n d:Nat}{st:St}{o:Oper}{f e k j:Nat}{vs:List Value}{rss:List (List (List D))}{v:Value}{rows rows':List (List D)}
theorem bGb{env':Nat->AV}(ho:st.objs[f]?=some (.fam e k vs rss))(hv:vs[j]?=some v)(hr:rss[j]?=some rows)
  (h:bB P n o ⟨st.env,st.objs.set f (.fam e k (vs.set j yA) (rss.set j []))++[.arr v e k rows]⟩ ⟨env',st.objs.set f (.fam e k (vs.set j yA) (rss.set j []))++[.arr v e k rows']⟩):
  bB P n o st ⟨env',st.objs.set f (.fam e k vs (rss.set j rows'))⟩:=by
 have hfl:=(List.getElem?_eq_some_iff.1 ho).1;have hj:=(List.getElem?_eq_some_iff.1 hv).1;intro A M w0 a w hR K Q hK;refine h A M w0 a w (bNk ho hv hr A M w0 n a w hR) K Q ?_;rintro s a' w' rfl hR';refine hK _ _ _ rfl ?_;have:=bGy (env:=env') (objs:=st.objs.set f (.fam e k (vs.set j yA) (rss.set j []))) (i:=f) (v:=v) (rows:=rows') (List.getElem?_set_self hfl) hj A M w0 n a' w' hR';have hvs:vs.set j v=vs:=by
  have:=(List.getElem?_eq_some_iff.1 hv).2;rw[<-this,List.set_getElem_self]
 simpa only[List.set_set,hvs] using this
theorem bBg{env':Nat->AV}(ho:st.objs[f]?=some (.fam e k vs rss))(hv:vs[j]?=some v)(hr:rss[j]?=some rows)
  (h:bB P n o ⟨st.env,st.objs.set f (.fam e k (vs.set j yA) (rss.set j []))++[.arr v e k rows]⟩ ⟨env',st.objs.set f (.fam e k (vs.set j yA) (rss.set j []))++[.arr v e k rows]⟩):
  bB P n o st ⟨env',st.objs⟩:=by
 have h1:=bGb ho hv hr h;have e1:rss.set j rows=rss:=by
  have:=(List.getElem?_eq_some_iff.1 hr).2;rw[<-this,List.set_getElem_self]
 have e2:st.objs.set f (.fam e k vs rss)=st.objs:=by
  have:=(List.getElem?_eq_some_iff.1 ho).2;rw[<-this];simp
 rwa[e1,e2] at h1
theorem aKd{α β:Type}{c:List α}{q:Int}{row:α}(h:idx c q=some row)(g:α->β):(c.map g)[q.toNat]?=some (g row):=(zY (cF g h)).2.2
theorem aTl{l:List MO}{i:Nat}{m x:MO}:(l.set i m++[x])[l.length]?=some x:=by simp
theorem bHp{α:Type}{x y:Operand}{t e0 m:Nat}{v0:Value}{g:α->List D}{c:List (List α)}{row:List α}{kd:IntKind}{p:Int}{ty:TypeId}{pos:String}{af:Array Edge}{gd:Option (Nat×Bool)}(hd:d<n)
  (hx:st.eval x=.d (.lit v0))(ho:st.objs[m]?=some (.arr v0 e0 1 (vs.map λv=>[.lit v])))(hf:st.objs[f]?=some (.fam e k vs (c.map λr=>r.map g)))(hy:st.eval y=.d (.lit (.int kd p)))(ht:gU P t e0 1)(hp:idx c p=some row):
  Step P n ⟨some d,.indexAddr t x y,ty,pos,af,gd⟩ st (λs=>∃v,vs[p.toNat]?=some v/\s=st.set d (.ep v0 1 p.toNat 0)):=by
 intro A M w0 a w hR K Q hK;obtain⟨hl,_⟩:=hR.inv.holds _ (List.mem_of_getElem? hf);obtain⟨h0,h1,h2⟩:=zY hp;have hlt:p.toNat<vs.length:=by simp at hl;omega
 refine mK (ds:=[.lit vs[p.toNat]]) hd hx ho hy ht ?_ A M w0 a w hR K Q λs a' w' hs hR'=>hK s a' w' ⟨vs[p.toNat],List.getElem?_eq_getElem hlt,hs⟩ hR';unfold idx
 simp[h0,hlt]
theorem bLw{x:Operand}{t e0 m:Nat}{v0:Value}{p:Nat}{ty:TypeId}{pos:String}{af:Array Edge}{gd:Option (Nat×Bool)}(hd:d<n)
  (hx:st.eval x=.ep v0 1 p 0)(ho:st.objs[m]?=some (.arr v0 e0 1 (vs.map λv=>[.lit v])))(hv:vs[p]?=some v)(ht:iF P t):bB P n ⟨some d,.load t x,ty,pos,af,gd⟩ st (st.set d (.d (.lit v))):=
 sQ (ds:=[.lit v]) hd hx ho (by simp[hv]) rfl ht
theorem bLu{α:Type}{x y:Operand}{t:Nat}{g:α->List D}{c:List (List α)}{row:List α}{a:α}{kd:IntKind}{q p:Int}{ty:TypeId}{pos:String}{af:Array Edge}{gd:Option (Nat×Bool)}(hd:d<n)
  (hx:st.eval x=.d (.lit v))(hf:st.objs[f]?=some (.fam e k vs (c.map λr=>r.map g)))(hv:vs[q.toNat]?=some v)(hq:idx c q=some row)(hy:st.eval y=.d (.lit (.int kd p)))(ht:gU P t e k)(hp:idx row p=some a):
  bB P n ⟨some d,.indexAddr t x y,ty,pos,af,gd⟩ st (st.set d (.ep v k p.toNat 0)):=
 bBg (rows:=row.map g) hf hv (aKd hq _) (mK (m:=st.objs.length) (ds:=g a) hd hx aTl hy ht (cF g hp))
theorem bPh{α:Type}{x:Operand}{t:Nat}{g:α->List D}{c:List (List α)}{row:List α}{a:α}{q p:Int}{j:Nat}{d0:D}{ty:TypeId}{pos:String}{af:Array Edge}{gd:Option (Nat×Bool)}(hd:d<n)
  (hx:st.eval x=.ep v k p.toNat j)(hf:st.objs[f]?=some (.fam e k vs (c.map λr=>r.map g)))(hv:vs[q.toNat]?=some v)(hq:idx c q=some row)(hp:idx row p=some a)(hj:(g a)[j]?=some d0)(ht:iF P t):
  bB P n ⟨some d,.load t x,ty,pos,af,gd⟩ st (st.set d (.d d0)):=
 bBg (rows:=row.map g) hf hv (aKd hq _) (sQ (m:=st.objs.length) (ds:=g a) hd hx aTl (aKd hp _) hj ht)
theorem bFr{α:Type}{x y:Operand}{t e0 m bytes:Nat}{v0 z:Value}{g:α->List D}{c c':List (List α)}{row:List α}{ty:TypeId}{pos:String}{af:Array Edge}{gd:Option (Nat×Bool)}(hd:d<n)(ht:SliceTy P t e0 1 bytes z)
  (hx:st.eval x=.d (.lit v0))(ho:st.objs[m]?=some (.arr v0 e0 1 (vs.map λv=>[.lit v])))(hf:st.objs[f]?=some (.fam e k vs (c.map λr=>r.map g)))(hy:st.eval y=.d (.sl 1 [[.lit v]]))(hb:app bytes c [row]=some c')(hby:Nat.blt 0 bytes=true):
  Step P n ⟨some d,.call {callee:=.builtin .append,args:= #[x,y],argTypes:= #[t,t]},ty,pos,af,gd⟩ st (λs=>∃v',s=⟨upd st.env d (.d (.lit v')),st.objs.set m (.arr v' e0 1 ((vs++[v]).map λv=>[.lit v]))⟩):=by
 intro A M w0 a w hR K Q hK;obtain⟨hl,_⟩:=hR.inv.holds _ (List.mem_of_getElem? hf);have hl2:vs.length=c.length:=by simpa using hl
 have hb2:app bytes vs [v]=some (vs++[v]):=by
  unfold app at hb|-;split at hb
  ·rename_i hc
   rw[if_pos (by rw[hl2];exact hc)]
  ·cases hb
 exact pM (f:=λv=>[D.lit v]) (xs:=vs) (ys:=[v]) hd ht hx ho hy (λ_=>rfl) hb2 hby A M w0 a w hR K Q hK
theorem bLz{α:Type}{x y:Operand}{t m:Nat}{g:α->List D}{c c':List (List α)}{row:List α}{a a':α}{q p:Int}{j:Nat}{es:List D}{u:AV}{ty:TypeId}{pos:String}{af:Array Edge}{gd:Option (Nat×Bool)}
  (hx:st.eval x=.ep v k p.toNat j)(hf:st.objs[f]?=some (.fam e k vs (c.map λr=>r.map g)))(hv:vs[q.toNat]?=some v)(hq:idx c q=some row)(hp:idx row p=some a)(hy:st.eval y=u)(hk:cT y=true)(hu:u.cells=some es)(ht:∀w,(sizeOf t).run P w=.ok m w)
  (hm:es.length=m)(hm0:0<m)(hj:j+es.length<=(g a).length)(hpa:gD (g a) j es=g a')(hc:c.set q.toNat (row.set p.toNat a')=c'):
  bB P n ⟨none,.store t x y,ty,pos,af,gd⟩ st ⟨st.env,st.objs.set f (.fam e k vs (c'.map λr=>r.map g))⟩:=by
 have e1:(c'.map λr=>r.map g)=(c.map λr=>r.map g).set q.toNat ((row.set p.toNat a').map g):=by rw[<-hc,List.map_set]
 have hpr:(row.map g)[p.toNat]?=some (g a):=aKd hp _;rw[e1];refine bGb (rows:=row.map g) (env':=st.env) hf hv (aKd hq _) ?_;have:=vH (P:=P) (n:=n) (st:=⟨st.env,st.objs.set f (.fam e k (vs.set q.toNat yA) ((c.map λr=>r.map g).set q.toNat []))++[.arr v e k (row.map g)]⟩) (l:=st.objs.length) (rows':=(row.set p.toNat a').map g) (ty:=ty) (pos:=pos) (af:=af) (gd:=gd)
  hx aTl hpr hy hk hu ht hm hm0 hj (by rw[hpa,List.map_set])
 have e2:∀(L:List MO) (x y:MO),(L++[x]).set L.length y=L++[y]:=by
  intro L x y;rw[List.set_append_right _ _ (Nat.le_refl _)]
  simp
 have e3:=e2 (st.objs.set f (MO.fam e k (vs.set q.toNat yA) ((c.map λr=>r.map g).set q.toNat []))) (.arr v e k (row.map g)) (.arr v e k ((row.set p.toNat a').map g));rw[List.length_set] at e3;simp only[St.put1,e3] at this;exact this
end
end Go.Am
