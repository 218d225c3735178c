/- What the law leans on, part 7. No conditions. -/
import Derived.KernelRfl
import Derived.Test.YtccbmmnkiihkaaaInboxTellsPart6
set_option linter.unusedVariables false
set_option linter.unusedSimpArgs false
namespace Go.Proofs.Ytccbmmnkiihkaaa
set_option maxRecDepth 100000
attribute [local irreducible] Go GoR GoL
section
variable {h h' : AHeap} {xb : Nat} {A : RA} {t : RT} {n0 : Nat}
theorem RX.owns (k : RX h xb A t n0) : ∀ j ∈ [xb] ++ blk t.va ++ blk t.ra, n0 ≤ j := fun j hj => by
 simp only [List.cons_append, List.nil_append, List.mem_cons, List.mem_append] at hj
 rcases hj with rfl | q | q
 · exact k.ow.1
 · exact k.ow.2.1 j q
 · exact k.ow.2.2 j q
theorem RJ.owns {jb : Nat} {l : List PV} {a : Option Addr} {cap : Nat} (k : RJ h jb l a cap n0) : ∀ j ∈ [jb] ++ blk a, n0 ≤ j := fun j hj => by
 simp only [List.cons_append, List.nil_append, List.mem_cons] at hj
 rcases hj with rfl | q
 · exact k.ow.1
 · exact k.ow.2 j q
theorem RJ.lts {jb : Nat} {l : List PV} {a : Option Addr} {cap : Nat} (k : RJ h jb l a cap n0) : ∀ j ∈ [jb] ++ blk a, j < h.n := fun j hj => by
 simp only [List.cons_append, List.nil_append, List.mem_cons] at hj
 rcases hj with rfl | q
 · exact AHeap.lt k.jc
 · exact k.lv.lt j q
theorem ROk.sx (k : ROk h xb A t n0) : ∀ j ∈ [A.sb] ++ blk t.wa ++ blk t.da, j ∉ [xb] ++ blk t.va ++ blk t.ra := fun j hj hm => by
 obtain ⟨c, g, -⟩ := k.X.xc
 simp only [List.cons_append, List.nil_append, List.mem_cons, List.mem_append] at hj hm
 rcases hj with rfl | q | q
 ·
  have gs := k.S.sc
  rcases hm with e | z | z
  · rw [e, g] at gs; cases gs
  · exact sv_out k.X.wv gs (fun c e => by cases e) z
  · exact sv_out k.X.rv gs (fun c e => by cases e) z
 ·
  rcases hm with rfl | z | z
  · exact sv_out k.S.wv g (fun c e => by cases e) q
  · exact sv_sv k.S.wv k.X.wv (by decide) j q z
  · exact sv_sv k.S.wv k.X.rv (by decide) j q z
 ·
  rcases hm with rfl | z | z
  · exact sv_out k.S.dv g (fun c e => by cases e) q
  · exact sv_sv k.S.dv k.X.wv (by decide) j q z
  · exact sv_sv k.S.dv k.X.rv (by decide) j q z
theorem ROk.jx (k : ROk h xb A t n0) : ∀ j ∈ [A.jb] ++ blk t.ja, j ∉ [xb] ++ blk t.va ++ blk t.ra := fun j hj hm => by
 obtain ⟨c, g, -⟩ := k.X.xc
 simp only [List.cons_append, List.nil_append, List.mem_cons, List.mem_append] at hj hm
 rcases hj with rfl | q
 ·
  have gs := k.J.jc
  rcases hm with e | z | z
  · rw [e, g] at gs; cases gs
  · exact sv_out k.X.wv gs (fun c e => by cases e) z
  · exact sv_out k.X.rv gs (fun c e => by cases e) z
 ·
  rcases hm with rfl | z | z
  · exact sv_out k.J.lv g (fun c e => by cases e) q
  · exact sv_sv k.J.lv k.X.wv (by decide) j q z
  · exact sv_sv k.J.lv k.X.rv (by decide) j q z
theorem ROk.js (k : ROk h xb A t n0) : ∀ j ∈ [A.jb] ++ blk t.ja, j ∉ [A.sb] ++ blk t.wa ++ blk t.da := fun j hj hm => by
 have gs := k.S.sc
 have gj := k.J.jc
 simp only [List.cons_append, List.nil_append, List.mem_cons, List.mem_append] at hj hm
 rcases hj with rfl | q
 ·
  rcases hm with e | z | z
  · rw [e, gs] at gj; cases gj
  · exact sv_out k.S.wv gj (fun c e => by cases e) z
  · exact sv_out k.S.dv gj (fun c e => by cases e) z
 ·
  rcases hm with rfl | z | z
  · exact sv_out k.J.lv gs (fun c e => by cases e) q
  · exact sv_sv k.J.lv k.S.wv (by decide) j q z
  · exact sv_sv k.J.lv k.S.dv (by decide) j q z
theorem ROk.ds (k : ROk h xb A t n0) {a : Option Addr} {len cap : Nat} {cs : List Value} (d : Sv h 5 1 a len cap cs) : ∀ i ∈ blk a, i ∉ [A.sb] ++ blk t.wa ++ blk t.da := fun i hi hm => by
 simp only [List.cons_append, List.nil_append, List.mem_cons, List.mem_append] at hm
 rcases hm with rfl | z | z
 · exact sv_out d k.S.sc (fun c e => by cases e) hi
 · exact sv_sv d k.S.wv (by decide) i hi z
 · exact sv_sv d k.S.dv (by decide) i hi z
theorem ROk.dj (k : ROk h xb A t n0) {a : Option Addr} {len cap : Nat} {cs : List Value} (d : Sv h 5 1 a len cap cs) : ∀ i ∈ blk a, i ∉ [A.jb] ++ blk t.ja := fun i hi hm => by
 simp only [List.cons_append, List.nil_append, List.mem_cons] at hm
 rcases hm with rfl | z
 · exact sv_out d k.J.jc (fun c e => by cases e) hi
 · exact sv_sv d k.J.lv (by decide) i hi z
theorem RX.kept (k : RX h xb A t n0) {wr : List Nat} (kk : Keeps wr h h') (hn : ∀ j ∈ [xb] ++ blk t.va ++ blk t.ra, j ∉ wr) (hd : ∀ {a : Option Addr} {len cap : Nat} {cs : List Value}, Sv h 5 1 a len cap cs → ∀ i ∈ blk a, i ∉ wr) : RX h' xb A t n0 := { k with
 xc := by obtain ⟨c, g, r⟩ := k.xc; exact ⟨c, kk.get g (hn _ (by simp)), r⟩
 wv := k.wv.keeps kk (fun j hj => hn j (by simp [hj]))
 rv := k.rv.keeps kk (fun j hj => hn j (by simp [hj]))
 dr := fun m hm => (k.dr m hm).keeps kk (hd (k.dr m hm))
 dw := fun m hm => (k.dw m hm).keeps kk (hd (k.dw m hm)) }
theorem ROk.setJ (k : ROk h xb A t n0) {kept' : List PV} {ja' : Option Addr} {jc' : Nat} (kk : Keeps ([A.jb] ++ blk t.ja) h h') (J : RJ h' A.jb kept' ja' jc' n0) : ROk h' xb A { t with kept := kept', ja := ja', jc := jc' } n0 :=
 have X2 := k.X.kept kk (fun j hj hm => k.jx j hm hj) (fun d => k.dj d)
 ⟨⟨X2.xc, X2.wv, X2.rv, X2.dr, X2.dw, X2.mr, X2.mw, X2.wk, X2.ow⟩, k.S.kept kk (fun j hj hm => k.js j hm hj), J⟩
theorem ROk.setX (k : ROk h xb A t n0) {va' ra' : Option Addr} {vc' rc' : Nat} {nx' : Nat → Nat} {W : WL} {R : List IM} (kk : Keeps ([xb] ++ blk t.va ++ blk t.ra) h h') (X : RX h' xb A { t with va := va', vc := vc', ra := ra', rc := rc', nx := nx', waits := W, ready := R } n0) : ROk h' xb A { t with va := va', vc := vc', ra := ra', rc := rc', nx := nx', waits := W, ready := R } n0 :=
 ⟨X, k.S.kept kk k.sx, k.J.kept kk (k.jx _ (by simp)) (fun i hi => k.jx i (by simp [hi])) (fun i hi => k.X.owns i hi)⟩
end
structure RG (t : RT) : Prop where
 l : t.ws.length ≤ 65535
 p : ∀ w ∈ t.ws, 1 ≤ w
 s : t.ws.Pairwise (· < ·)
 d : t.ds.length ≤ 16
def limitR (A : RA) (t : RT) (p : PV) : Int := if spanN t.c p.t = 1 then (A.rm : Int) else (A.rm : Int) - (A.sp : Int)
inductive RAddI (A : RA) (t : RT) (p : PV) : Int → RT → Prop
 | arg (h0 : p.z.length = 0) : RAddI A t p 2 t
 | full (h0 : p.z.length ≠ 0) (h1 : ¬ hasW t.c t.ws p.t = true) (h2 : ¬ 65535 < spanN t.c p.t) (h3 : limitR A t p < (t.held : Int) + p.z.length) : RAddI A t p 7 t
 | has {code c' : Nat} {ws' ds' : List Nat} {wa' da' : Option Addr} {wc' dc' : Nat} (h0 : p.z.length ≠ 0) (h1 : hasW t.c t.ws p.t = true) (ha : addW t.c t.ws t.ds p.t = (code, c', ws', ds')) : RAddI A t p 4 { t with wa := wa', wc := wc', da := da', dc := dc', c := c', ws := ws', ds := ds' }
 | far (h0 : p.z.length ≠ 0) (h1 : ¬ hasW t.c t.ws p.t = true) (h2 : 65535 < spanN t.c p.t) : RAddI A t p 4 t
 | stream {code c' : Nat} {ws' ds' : List Nat} {wa' da' : Option Addr} {wc' dc' : Nat} (h0 : p.z.length ≠ 0) (h1 : ¬ hasW t.c t.ws p.t = true) (h2 : ¬ 65535 < spanN t.c p.t) (ha : addW t.c t.ws t.ds p.t = (code, c', ws', ds')) (h3 : (t.held : Int) + p.z.length ≤ limitR A t p) (hs : A.st ≤ p.sid) : RAddI A t p 100 { t with wa := wa', wc := wc', da := da', dc := dc', c := c', ws := ws', ds := ds' }
 | part {code c' : Nat} {ws' ds' : List Nat} {wa' da' ja' : Option Addr} {wc' dc' jc' : Nat} (h0 : p.z.length ≠ 0) (h1 : ¬ hasW t.c t.ws p.t = true) (h2 : ¬ 65535 < spanN t.c p.t) (ha : addW t.c t.ws t.ds p.t = (code, c', ws', ds')) (h3 : (t.held : Int) + p.z.length ≤ limitR A t p) (hs : p.sid < A.st) (hp : (putN t.kept p).2 = none) : RAddI A t p 0 { t with wa := wa', wc := wc', da := da', dc := dc', c := c', ws := ws', ds := ds', kept := (putN t.kept p).1, ja := ja', jc := jc' }
 | whole {code c' : Nat} {ws' ds' : List Nat} {wa' da' ja' va' ra' : Option Addr} {wc' dc' jc' vc' rc' : Nat} {m : IM} (h0 : p.z.length ≠ 0) (h1 : ¬ hasW t.c t.ws p.t = true) (h2 : ¬ 65535 < spanN t.c p.t) (ha : addW t.c t.ws t.ds p.t = (code, c', ws', ds')) (h3 : (t.held : Int) + p.z.length ≤ limitR A t p) (hs : p.sid < A.st) (hp : (putN t.kept p).2 = some (m.sid, m.un, m.ppid, m.z)) : RAddI A t p 0 { t with wa := wa', wc := wc', da := da', dc := dc', c := c', ws := ws', ds := ds', kept := (putN t.kept p).1, ja := ja', jc := jc', va := va', vc := vc', ra := ra', rc := rc', nx := (rmsgN t.nx t.waits t.ready m p.ssn).1, waits := (rmsgN t.nx t.waits t.ready m p.ssn).2.1, ready := (rmsgN t.nx t.waits t.ready m p.ssn).2.2 }
end Go.Proofs.Ytccbmmnkiihkaaa
namespace Go.Proofs.Ytccbmmnkiihkaaa
set_option maxRecDepth 100000
def PV.w (p : PV) : PV := { p with a := none, cap := 0 }
def IM.w (m : IM) : IM := { m with a := none, cap := 0 }
def pw (l : List PV) : List PV := l.map PV.w
def iw (l : List IM) : List IM := l.map IM.w
def ww (l : WL) : WL := l.map fun p => (p.1, p.2.w)
theorem heldN_w (l : List PV) : heldN (pw l) = heldN l := by unfold heldN pw; rw [List.map_map]; rfl
theorem lenI_w (l : List IM) : lenI (iw l) = lenI l := by unfold lenI iw; rw [List.map_map]; rfl
theorem lenW_w (l : WL) : lenW (ww l) = lenW l := by unfold lenW ww; rw [List.map_map]; rfl
structure Both (t : IT) (r : RT) : Prop where
 c : t.c = r.c
 ds : t.ds = r.ds
 al : Alike t.c t.ks r.ws
 kept : pw t.kept = pw r.kept
 nx : ∀ k, r.nx k = nget t.s.next k
 waits : ww t.s.waits = ww r.waits
 ready : iw t.s.ready = iw r.ready
theorem Both.held {t : IT} {r : RT} (b : Both t r) : t.held = r.held := by
 unfold IT.held RT.held lenS
 rw [← heldN_w t.kept, b.kept, heldN_w, ← lenW_w t.s.waits, b.waits, lenW_w, ← lenI_w t.s.ready, b.ready, lenI_w]
 omega
theorem Both.rl {t : IT} {r : RT} (b : Both t r) : r.ready.length = t.s.ready.length ∧ r.waits.length = t.s.waits.length ∧ r.kept.length = t.kept.length := by
 have h1 := congrArg List.length b.ready
 have h2 := congrArg List.length b.waits
 have h3 := congrArg List.length b.kept
 simp only [iw, ww, pw, List.length_map] at h1 h2 h3
 exact ⟨h1.symm, h2.symm, h3.symm⟩
end Go.Proofs.Ytccbmmnkiihkaaa
namespace Go.Proofs.Ytccbmmnkiihkaaa
set_option maxRecDepth 100000
attribute [local irreducible] Go GoR GoL
theorem ROk.kept {h h' : AHeap} {xb : Nat} {A : RA} {t : RT} {n0 : Nat} {wr : List Nat} (k : ROk h xb A t n0) (kk : Keeps wr h h') (hx : ∀ j ∈ [xb] ++ blk t.va ++ blk t.ra, j ∉ wr) (hs : ∀ j ∈ [A.sb] ++ blk t.wa ++ blk t.da, j ∉ wr) (hj : ∀ j ∈ [A.jb] ++ blk t.ja, j ∉ wr) (hn : ∀ j ∈ wr, n0 ≤ j) (hd : ∀ {a : Option Addr} {len cap : Nat} {cs : List Value}, Sv h 5 1 a len cap cs → ∀ i ∈ blk a, i ∉ wr) : ROk h' xb A t n0 :=
 ⟨k.X.kept kk hx hd, k.S.kept kk hs, k.J.kept kk (hj _ (by simp)) (fun i hi => hj i (by simp [hi])) hn⟩
end Go.Proofs.Ytccbmmnkiihkaaa
namespace Go.Proofs.Ytccbmmnkiihkaaa
set_option maxRecDepth 100000
attribute [local irreducible] Go GoR GoL
end Go.Proofs.Ytccbmmnkiihkaaa
namespace Go.Proofs.Ytccbmmnkiihkaaa
set_option maxRecDepth 100000
def tyOf (h : AHeap) (j : Nat) : Option TypeId := match h.get j with
 | some (.cells _ t) => some t
 | _ => none
theorem tyOf_cells {h : AHeap} {j : Nat} {c : List Value} {t : TypeId} (g : h.get j = some (.cells c t)) : tyOf h j = some t := by unfold tyOf; rw [g]
theorem tyOf_map {h : AHeap} {j : Nat} {es : Array MapEntry} {ck : Nat} (g : h.get j = some (.map es ck)) : tyOf h j = none := by unfold tyOf; rw [g]
theorem sv_ty {h : AHeap} {t : TypeId} {sz : Nat} {a : Option Addr} {len cap : Nat} {cs : List Value} (k : Sv h t sz a len cap cs) : ∀ j ∈ blk a, tyOf h j = some t := fun j hj => by
 cases k with
 | nil => cases hj
 | mk hg _ _ _ =>
  simp only [blk, List.mem_singleton] at hj
  rw [hj]; exact tyOf_cells hg
section
variable {h h' : AHeap} {xb yb r mr n0 : Nat} {A : IA} {B : RA} {t : IT} {q : RT}
def wrI (xb : Nat) (A : IA) (r mr : Nat) (t : IT) : List Nat := [xb, A.nx, A.wt] ++ blk t.ra ++ ([A.sb, r] ++ blk t.da) ++ [A.jb, mr]
def blR (yb : Nat) (B : RA) (q : RT) : List Nat := [yb] ++ blk q.va ++ blk q.ra ++ ([B.sb] ++ blk q.wa ++ blk q.da) ++ ([B.jb] ++ blk q.ja)
theorem IOk.kinds (k : IOk h xb A r mr t n0) : ∀ j ∈ wrI xb A r mr t, tyOf h j ∈ [none, some 84, some 104, some 107] ∨ (tyOf h j = some 39 ∧ j ∈ blk t.ra) ∨ (tyOf h j = some 23 ∧ j ∈ blk t.da) := fun j hj => by
 obtain ⟨es, ck, g, -⟩ := k.G.mp
 obtain ⟨es1, ck1, g1, -⟩ := k.X.nm
 obtain ⟨es2, ck2, g2, -⟩ := k.X.wm
 obtain ⟨es3, ck3, g3, -⟩ := k.J.mp
 simp only [wrI, List.cons_append, List.nil_append, List.mem_cons, List.mem_append, List.not_mem_nil, or_false] at hj
 rcases hj with rfl | rfl | rfl | (z | rfl | rfl | z) | rfl | rfl
 · left; rw [tyOf_cells k.X.xc]; simp
 · left; rw [tyOf_map g1]; simp
 · left; rw [tyOf_map g2]; simp
 · exact .inr (.inl ⟨sv_ty k.X.rv j z, z⟩)
 · left; rw [tyOf_cells k.G.sc]; simp
 · left; rw [tyOf_map g]; simp
 · exact .inr (.inr ⟨sv_ty k.G.dv j z, z⟩)
 · left; rw [tyOf_cells k.J.jc]; simp
 · left; rw [tyOf_map g3]; simp
theorem ROk.kinds (k : ROk h yb B q n0) : ∀ j ∈ blR yb B q, tyOf h j ∈ [some 61, some 99, some 54, some 2, some 86, some 33] ∨ (tyOf h j = some 39 ∧ j ∈ blk q.ra) ∨ (tyOf h j = some 23 ∧ j ∈ blk q.da) := fun j hj => by
 obtain ⟨c, g, -⟩ := k.X.xc
 simp only [blR, List.cons_append, List.nil_append, List.mem_cons, List.mem_append] at hj
 rcases hj with rfl | ((z | z) | rfl | z | z) | rfl | z
 · left; rw [tyOf_cells g]; simp
 · left; rw [sv_ty k.X.wv j z]; simp
 · exact .inr (.inl ⟨sv_ty k.X.rv j z, z⟩)
 · left; rw [tyOf_cells k.S.sc]; simp
 · left; rw [sv_ty k.S.wv j z]; simp
 · exact .inr (.inr ⟨sv_ty k.S.dv j z, z⟩)
 · left; rw [tyOf_cells k.J.jc]; simp
 · left; rw [sv_ty k.J.lv j z]; simp
theorem IOk.u8 (k : IOk h xb A r mr t n0) {a : Option Addr} {len cap : Nat} {cs : List Value} (d : Sv h 5 1 a len cap cs) : ∀ i ∈ blk a, i ∉ wrI xb A r mr t := fun i hi hm => by
 have e := sv_ty d i hi
 rcases k.kinds i hm with e' | ⟨e', -⟩ | ⟨e', -⟩
 · rw [e] at e'; exact absurd e' (by decide)
 · rw [e] at e'; exact absurd e' (by decide)
 · rw [e] at e'; exact absurd e' (by decide)
theorem ROk.u8 (k : ROk h yb B q n0) {a : Option Addr} {len cap : Nat} {cs : List Value} (d : Sv h 5 1 a len cap cs) : ∀ i ∈ blk a, i ∉ blR yb B q := fun i hi hm => by
 have e := sv_ty d i hi
 rcases k.kinds i hm with e' | ⟨e', -⟩ | ⟨e', -⟩
 · rw [e] at e'; exact absurd e' (by decide)
 · rw [e] at e'; exact absurd e' (by decide)
 · rw [e] at e'; exact absurd e' (by decide)
theorem IOk.ownW (k : IOk h xb A r mr t n0) : ∀ j ∈ wrI xb A r mr t, n0 ≤ j := fun j hj => by
 unfold wrI at hj
 rcases List.mem_append.1 hj with hj | hj
 ·
  rcases List.mem_append.1 hj with hj | hj
  · exact k.X.owns j hj
  · exact k.G.owns j hj
 ·
  simp only [List.mem_cons, List.not_mem_nil, or_false] at hj
  rcases hj with rfl | rfl
  · exact k.J.ow.1
  · exact k.J.ow.2
theorem IOk.ltW (k : IOk h xb A r mr t n0) : ∀ j ∈ wrI xb A r mr t, j < h.n := fun j hj => by
 unfold wrI at hj
 rcases List.mem_append.1 hj with hj | hj
 ·
  rcases List.mem_append.1 hj with hj | hj
  · exact k.X.lts j hj
  · exact k.G.lts j hj
 ·
  simp only [List.mem_cons, List.not_mem_nil, or_false] at hj
  rcases hj with rfl | rfl
  · exact AHeap.lt k.J.jc
  · exact k.J.mp.lt
end
end Go.Proofs.Ytccbmmnkiihkaaa
namespace Go.Proofs.Ytccbmmnkiihkaaa
set_option maxRecDepth 100000
attribute [local irreducible] Go GoR GoL
theorem Keeps.rfl (wr : List Nat) (h : AHeap) : Keeps wr h h := ⟨Nat.le_refl _, fun _ _ _ => Eq.refl _⟩
theorem Keeps.put {wr : List Nat} {h h' : AHeap} (k : Keeps wr h h') {b : Nat} (hb : b ∈ wr) (o : Option AObj) : Keeps wr h (h'.put b o) := ⟨k.1, fun i hi hn => by rw [AHeap.get_put_ne _ _ (fun e => hn (by rw [← e]; exact hb))]; exact k.2 i hi hn⟩
theorem takeAll_one {h : AHeap} {d : Nat} (g : h.get d = some (.deferred true)) : takeAll h [d] = some (h.put d (some (.deferred false))) := by simp [takeAll, g]
theorem Rv.capLen {P : Program} {h : AHeap} {sz : Nat} {a : Option Addr} {len cap : Nat} {cs : List Value} (k : Rv P h sz a len cap cs) : Rv P h sz a len len cs := by
 cases k with
 | nil => exact .nil
 | mk hg ho hl hc => exact .mk hg ho (Nat.le_refl _) hc
section
variable {P : Program} {W : Nat → Prop} {q : Bool} {N : Nat} {k : List It} {ov : Ov} {df : List Nat} {h : AHeap} {Q : PQ} {ops : Array Oper} {b₀ : Bool} {os : List Oper} {o : Oper} {d : Nat}
theorem GoR.bL3 {t e : TypeId} {x : Operand} {lo hi mx : Operand} {kd kd' kd'' : IntKind} {l r : Nat} {a : Option Addr} {len cap : Nat} {zs : List UInt8} (ho : o.op = .slice t x (some lo) (some hi) (some mx)) (hd : o.dst = some d) (hN : dOk d N = true) (hgd : o.guard = none) (hx : evO ov x = some (.slice a len cap)) (hlo : evO ov lo = some (.int kd (l : Int))) (hhi : evO ov hi = some (.int kd' (r : Int))) (hmx : evO ov mx = some (.int kd'' (r : Int))) [hu : UN P t (.slice e)] [hs : SZ P e 1] (hS : Rv P h 1 a len cap (zs.map bv)) (h1 : l ≤ r) (h2 : r ≤ len) (g : ∀ a', Rv P h 1 a' (r - l) (r - l) (((zs.drop l).take (r - l)).map bv) → (∀ i ∈ blk a', i ∈ blk a) → GoR P W q N ops b₀ os k ((d, .slice a' (r - l) (r - l)) :: ov) df h Q) : GoR P W q N ops b₀ (o :: os) k ov df h Q := by
 have fact : Rv P h 1 (subA a (l * 1)) (r - l) (cap - l) (((zs.drop l).take (r - l)).map bv) := (hS.bytes_sub h1 h2)
 have fact' : Rv P h 1 (subA a (l * 1)) (r - l) (r - l) (((zs.drop l).take (r - l)).map bv) := fact.capLen
 have := g _ fact' (fun i hi => by rw [subA_blk] at hi; exact hi)
 refine GoR.slice3V ho hd hN hgd hx (l := l) (r := r) (xx := r) (lo' := some (.int kd (l : Int))) (by simp [hlo]) hhi hmx hS (by simp [bnd]) (by simp [bnd]) (by simp [bnd]) h1 (Nat.le_refl _) (Nat.le_trans h2 hS.le) ?_
 simpa using this
end
theorem GoL.callS {P : Program} {W : Nat → Prop} {q : Bool} {N : Nat} {k : List It} {ov : Ov} {df : List Nat} {h : AHeap} {Q : PQ} {ops : Array Oper} {os : List Oper} {o : Oper} {d : Nat} {tr : List (Option LE)} {f : Operand} {xs : Array Operand} {ts : Array TypeId} {g : FuncId} {first cap : Array Value} {us : List Value} (ho : o.op = .call ⟨.value f, xs, ts⟩) (hd : o.dst = some d) (hN : dOk d N = true) (hgd : o.guard = none) (hf : evO ov f = some (.func (.func g) first cap)) (hx : evOs ov xs.toList = some us) (hc : calls P g = true)
  (hk : CallS P [] g (first.toList ++ us ++ cap.toList) h fun v h' => Same h h' → GoL P W q N ops (tr ++ [some ⟨h.n, h'.n, [], [], true, false⟩]) os k ((d, v) :: ov) df h' Q) : GoL P W q N ops tr (o :: os) k ov df h Q :=
 GoL.call (wr := []) ho hd hN hgd hf hx hc (hk.mono fun v h' g kp => ⟨fun i hi => absurd hi List.not_mem_nil, g ⟨kp.1, fun i hi => kp.2 i hi List.not_mem_nil⟩⟩)
def chunkZ (z : List UInt8) (m j : Nat) : List UInt8 := (z.drop (j * m)).take m
structure Yc (l : Nat) {σ : Type} (wrO : σ → List Nat) (inv : σ → Nat → AHeap → Prop) (z : List UInt8) (m K : Nat) : Prop where
 same : ∀ s j h h', inv s j h → Same h h' → inv s j h'
 item : ∀ s j h (a : Option Addr), inv s j h → j < K → Rv Try.prog h 1 a (chunkZ z m j).length (chunkZ z m j).length ((chunkZ z m j).map bv) → (∀ i ∈ blk a, i ∉ l :: wrO s) → YieldS Try.prog (l :: wrO s) l [.slice a (chunkZ z m j).length (chunkZ z m j).length] h fun c h' => c = true ∧ ∃ s', (∀ b ∈ wrO s', b ∈ wrO s ∨ h.n ≤ b) ∧ inv s' (j + 1) h'
set_option maxHeartbeats 16000000 in
theorem chunk1_spec {l : Nat} {σ : Type} {wrO : σ → List Nat} {inv : σ → Nat → AHeap → Prop} (sb nb : Nat) (a : Option Addr) (cap : Nat) (z : List UInt8) (m K : Nat) (hm : 0 < m) (hmz : m ≤ z.length) (hz2 : z.length ≤ 2000000) (hK1 : z.length ≤ K * m) (hK2 : ∀ j, j < K → j * m < z.length) (h : AHeap) (s0 : σ) (Y : Yc l wrO inv z m K) (hi0 : inv s0 0 h) (hs : h.get sb = some (.cells [.slice a z.length cap] 31)) (hn : h.get nb = some (.cells [.int .i64 (m : Nat)] 3)) (hz : Rv Try.prog h 1 a z.length cap (z.map bv)) (p1 : sb ∉ l :: wrO s0) (p2 : nb ∉ l :: wrO s0) (p3 : ∀ i ∈ blk a, i ∉ l :: wrO s0) :
  CallS Try.prog (l :: wrO s0) 69 [.func (.yield l) #[] #[], .pointer (some ⟨sb, 0, none⟩), .pointer (some ⟨nb, 0, none⟩)] h fun v h' => ∃ s, inv s K h' := by
 have hls := AHeap.lt hs
 have hln := AHeap.lt hn
 have hla : ∀ i ∈ blk a, i < h.n := hz.lt
 (refine CallS.of3 Try.func69 rfl Try.ntmps69 Try.results69 rfl ?_)
 (refine Go.run (g:=?_))
 refine Go.loop (α := Nat × Nat × σ × AHeap) (fun x => [(4, .int .i64 (x.1 : Nat)), (0, .func (.yield l) #[] #[]), (1, .pointer (some ⟨sb, 0, none⟩)), (2, .pointer (some ⟨nb, 0, none⟩))]) (fun _ => []) (fun x => x.2.2.2) (fun x => x.1 = x.2.1 * m ∧ x.2.1 ≤ K ∧ inv x.2.2.1 x.2.1 x.2.2.2 ∧ (∀ b ∈ wrO x.2.2.1, b ∈ wrO s0 ∨ h.n ≤ b) ∧ h.n ≤ x.2.2.2.n ∧ x.2.2.2.get sb = some (.cells [.slice a z.length cap] 31) ∧ x.2.2.2.get nb = some (.cells [.int .i64 (m : Nat)] 3) ∧ Rv Try.prog x.2.2.2 1 a z.length cap (z.map bv)) (fun x => K - x.2.1) (0, 0, s0, h) ⟨by simp, Nat.zero_le _, hi0, fun b hb => .inl hb, Nat.le_refl _, hs, hn, hz⟩ ⟨rfl, rfl, rfl, rfl, trivial⟩ rfl rfl ?_
 rintro ⟨i, j, s, H⟩ ⟨hij, hj, hI, hw, hHn, hs1, hn1, hz1⟩
 simp only at hij hj hI hw hHn hs1 hn1 hz1 ⊢
 rcases Nat.lt_or_ge j K with j0 | j0
 case inr =>
  obtain rfl : j = K := by omega
  have hge : z.length ≤ i := by rw [hij]; exact hK1
  clear hij
  (refine Go.run (g:=?_))
  (first|refine Go.finA rfl ?_|refine Go.finB rfl (hq:=?_))
  exact ⟨s, hI⟩
 have hlt : i < z.length := by rw [hij]; exact hK2 j j0
 have hcl : (chunkZ z m j).length = min m (z.length - i) := by unfold chunkZ; rw [List.length_take, List.length_drop, ← hij]
 have hch : chunkZ z m j = (z.drop i).take (min m (z.length - i)) := by
  unfold chunkZ
  rw [← hij]
  by_cases q : m ≤ z.length - i
  · rw [Nat.min_eq_left q]
  · rw [Nat.min_eq_right (by omega), List.take_of_length_le (by rw [List.length_drop]; omega), List.take_of_length_le (by rw [List.length_drop]; omega)]
 generalize hmn : min m (z.length - i) = mn at *
 have hmn1 : 0 < mn ∧ i + mn ≤ z.length := by omega
 have hnx : i + m = (j + 1) * m := by rw [hij, Nat.succ_mul]
 clear hij
 (refine Go.run (g:=?_))
 refine GoR.bLo (l := i) rfl rfl rfl rfl rfl rfl hz1 (by omega) ?_
 intro a1 hza hba
 (refine Go.run (g:=?_))
 refine GoR.minI rfl rfl rfl rfl rfl rfl ?_
 rw [show (if ((z.length - i : Nat) : Int) < (m : Nat) then ((z.length - i : Nat) : Int) else (m : Nat)) = ((mn : Nat) : Int) by split <;> omega]
 clear hza hba
 (refine Go.run (g:=?_))
 refine GoR.bL3 (l := i) (r := i + mn) rfl rfl rfl rfl rfl rfl rfl rfl hz1 (by omega) (by omega) ?_
 intro a2 hz2' hb2
 rw [show i + mn - i = mn by omega] at hz2' ⊢
 (refine Go.run (g:=?_))
 have hnw : ∀ i, i < h.n → i ∉ l :: wrO s0 → i ∉ l :: wrO s := fun i hi hn hm => by
  rcases List.mem_cons.1 hm with rfl | hm
  · exact hn (List.mem_cons_self ..)
  ·
   rcases hw i hm with x | x
   · exact hn (List.mem_cons_of_mem _ x)
   · omega
 have hit := Y.item s j H a2 hI j0 (by rw [hcl, hch]; exact hz2') (fun i hi => hnw i (hla i (hb2 i hi)) (p3 i (hb2 i hi)))
 rw [hcl] at hit
 refine GoR.yield rfl rfl rfl rfl rfl rfl (hit.mono ?_)
 rintro c h9 ⟨rfl, s', hw', hI'⟩ k9
 have m9 := k9.1
 refine ⟨fun b hb => ?_, ?_⟩
 ·
  rcases List.mem_cons.1 hb with rfl | hb
  · exact .inl (List.mem_cons_self ..)
  · exact (hw b hb).imp (fun x => List.mem_cons_of_mem _ x) id
 have hz9 := hz1.keeps k9 (fun i hi => hnw i (hla i hi) (p3 i hi))
 have hs9 := k9.get hs1 (hnw sb hls p1)
 have hn9 := k9.get hn1 (hnw nb hln p2)
 (refine Go.run (g:=?_))
 refine Go.again (i + m, j + 1, s', h9) ⟨hnx, by simp only; omega, hI', fun b hb => ?_, by simp only; omega, hs9, hn9, hz9⟩ (by simp only; omega) ⟨rfl, rfl, rfl, rfl, trivial⟩ rfl rfl
 rcases hw' b hb with x | x
 · exact hw b x
 · exact .inr (by omega)
set_option maxHeartbeats 8000000 in
theorem chunkCall_spec (a : Option Addr) (n cap m : Nat) (hm : 0 < m) (h : AHeap) : CallS Try.prog [] 66 [.slice a n cap, .int .i64 (m : Nat)] h fun v h' => v = .func (.func 69) #[] #[.pointer (some ⟨h.n, 0, none⟩), .pointer (some ⟨h.n + 1, 0, none⟩)] ∧ h' = (h.push (.cells [.slice a n cap] 31)).push (.cells [.int .i64 (m : Nat)] 3) := by
 (refine CallS.of2 Try.func66 rfl Try.ntmps66 Try.results66 rfl ?_)
 (refine Go.run (g:=?_))
 (first|refine Go.finA rfl ?_|refine Go.finB rfl (hq:=?_))
 exact ⟨rfl, rfl⟩
end Go.Proofs.Ytccbmmnkiihkaaa
namespace Go.Proofs.Ytccbmmnkiihkaaa
set_option maxRecDepth 100000
attribute [local irreducible] Go GoR GoL
theorem setL_app (a c : List Value) (k : Nat) (l : List Value) : setL (a ++ c) (a.length + k) l = a ++ setL c k l := by
 unfold setL
 rw [List.take_append, List.take_of_length_le (by omega), show a.length + k - a.length = k by omega, Nat.add_assoc, List.drop_append, List.drop_of_length_le (by omega), show a.length + (k + l.length) - a.length = k + l.length by omega]
 simp
theorem pcs_set : ∀ {ps : List PV} {i : Nat} (hi : i < ps.length) (f : Nat), setL (pcs ps) (i * 6 + 1) [.int .u8 (f : Nat)] = pcs (ps.set i { ps[i] with fl := f })
 | x :: l, 0, _, f => rfl
 | x :: l, i + 1, hi, f => by
  have ih := pcs_set (ps := l) (i := i) (by simpa using hi) f
  have e := setL_app (pC x) (pcs l) (i * 6 + 1) [.int .u8 (f : Nat)]
  rw [show (pC x).length + (i * 6 + 1) = (i + 1) * 6 + 1 by simp only [pC, List.length_cons, List.length_nil]; omega] at e
  have hi' : i < l.length := by simpa using hi
  show setL (pC x ++ pcs l) _ _ = pC x ++ pcs (l.set i { l[i]'hi' with fl := f })
  rw [e, ih]
def fl0 (un : Bool) : Nat := if un then 4 else 0
def flC (un : Bool) (n j : Nat) : Nat := if j = n - 1 then (if j = 0 then fl0 un ||| 2 else fl0 un) ||| 1 else if j = 0 then fl0 un ||| 2 else fl0 un
structure CutI (m : IM) (s : Nat) (ps : List PV) : Prop where
 each : ∀ j (h : j < ps.length), ps[j].t = 0 ∧ ps[j].ssn = 0 ∧ ps[j].sid = m.sid ∧ ps[j].ppid = m.ppid ∧ ps[j].z = chunkZ m.z s j ∧ ps[j].fl = fl0 m.un
structure CutP (m : IM) (s : Nat) (ps : List PV) : Prop where
 K1 : m.z.length ≤ ps.length * s
 K2 : ∀ j, j < ps.length → j * s < m.z.length
 each : ∀ j (h : j < ps.length), ps[j].t = 0 ∧ ps[j].ssn = 0 ∧ ps[j].sid = m.sid ∧ ps[j].ppid = m.ppid ∧ ps[j].z = chunkZ m.z s j ∧ ps[j].fl = flC m.un ps.length j
theorem cutP_of {m : IM} {s : Nat} {ps : List PV} (c : CutI m s ps) (h0 : 0 < ps.length) (K1 : m.z.length ≤ ps.length * s) (K2 : ∀ j, j < ps.length → j * s < m.z.length) {f : Nat} (hf : f = flC m.un ps.length (ps.length - 1)) :
  CutP m s ((ps.set 0 { ps[0] with fl := fl0 m.un ||| 2 }).set (ps.length - 1) { (ps.set 0 { ps[0] with fl := fl0 m.un ||| 2 })[ps.length - 1]'(by rw [List.length_set]; omega) with fl := f }) := by
 subst hf
 refine ⟨by simpa using K1, by simpa using K2, fun j h => ?_⟩
 simp only [List.length_set] at h
 obtain ⟨e1, e2, e3, e4, e5, e6⟩ := c.each j h
 obtain ⟨y1, y2, y3, y4, y5, y6⟩ := c.each 0 h0
 obtain ⟨z1, z2, z3, z4, z5, z6⟩ := c.each (ps.length - 1) (by omega)
 simp only [List.getElem_set, List.length_set]
 by_cases q : ps.length - 1 = j
 ·
  subst q
  rw [if_pos rfl]
  by_cases p : 0 = ps.length - 1
  ·
   rw [if_pos p]
   refine ⟨y1, y2, y3, y4, ?_, rfl⟩
   show (ps[0]).z = _
   rw [y5, ← p]
  ·
   rw [if_neg p]
   exact ⟨z1, z2, z3, z4, z5, rfl⟩
 ·
  rw [if_neg q]
  by_cases p : 0 = j
  ·
   subst p
   rw [if_pos rfl]
   refine ⟨y1, y2, y3, y4, y5, ?_⟩
   show fl0 m.un ||| 2 = _
   unfold flC
   rw [if_neg (by omega), if_pos rfl]
  ·
   rw [if_neg p]
   refine ⟨e1, e2, e3, e4, e5, ?_⟩
   rw [e6]
   unfold flC
   rw [if_neg (by omega), if_neg (by omega)]
structure CInv (h0 : AHeap) (tm : List Value) (pa : Array Tmp) (asg bo : Code) (m : IM) (sz l d ob mb : Nat) (s : List PV × Option Addr × Nat) (j : Nat) (h : AHeap) : Prop where
 loop : h.get l = some (.loop .ready none tm pa asg bo d)
 mark : h.get d = some (.deferred true)
 out : h.get ob = some (.cells [.slice s.2.1 s.1.length s.2.2] 66)
 msg : h.get mb = some (.cells (iC m) 39)
 row : Sv h 33 6 s.2.1 s.1.length s.2.2 (pcs s.1)
 own : Own h0.n s.2.1
 dv : ∀ p ∈ s.1, Sv h 5 1 p.a p.z.length p.cap (p.z.map bv)
 cut : CutI m sz s.1
 len : s.1.length = j
 n0 : h0.n ≤ h.n
theorem dv_set {h : AHeap} {ps : List PV} (d : ∀ p ∈ ps, Sv h 5 1 p.a p.z.length p.cap (p.z.map bv)) {i : Nat} (hi : i < ps.length) (f : Nat) : ∀ p ∈ ps.set i { ps[i] with fl := f }, Sv h 5 1 p.a p.z.length p.cap (p.z.map bv) := fun p hp => by
 rcases List.mem_or_eq_of_mem_set hp with q | q
 · exact d p q
 ·
  subst q
  have := d _ (List.getElem_mem hi)
  exact this
set_option maxHeartbeats 32000000 in
theorem cut_spec (m : IM) (size : Int) (h : AHeap) (hlen : m.z.length ≤ 2000000) (hz : Rv Try.prog h 1 m.a m.z.length m.cap (m.z.map bv)) : CallS Try.prog [] 51 [iV m, .int .i64 size] h fun v h' =>
  (v = .tuple #[.slice none 0 0, .int .i64 2]) ∨ (m.z.length ≠ 0 ∧ 1 ≤ size ∧ ∃ b c ps, v = .tuple #[.slice b ps.length c, .int .i64 0] ∧ CutP m (min size.toNat m.z.length) ps ∧ Sv h' 33 6 b ps.length c (pcs ps) ∧ Own h.n b ∧ ∀ p ∈ ps, Sv h' 5 1 p.a p.z.length p.cap (p.z.map bv)) := by
 have hlt := hz.lt
 (refine CallS.of2 Try.func51 rfl Try.ntmps51 Try.results51 rfl ?_)
 simp only [iV, iC]
 (refine Go.run (g:=?_))
 refine GoR.name ?_
 intro h1 e1
 have s1 : Same h h1 := by subst e1; exact (Same.refl h).push _
 have g1 : h1.get h.n = some (.cells [.int .u16 (m.sid : Nat), .bool m.un, .int .u32 (m.ppid : Nat), .slice m.a m.z.length m.cap] 39) := by subst e1; exact AHeap.get_push_same _ _
 have n1 : h1.n = h.n + 1 := by subst e1; rfl
 clear e1
 by_cases h0 : m.z.length = 0
 ·
  have h0' : (m.z.length : Int) = 0 := by omega
  (refine Go.run (g:=?_))
  rw [decide_eq_true h0']
  (refine Go.run (g:=?_))
  (first|refine Go.finA rfl ?_|refine Go.finB rfl (hq:=?_))
  exact .inl rfl
 have h0' : ¬ (m.z.length : Int) = 0 := by omega
 by_cases h1s : size < 1
 ·
  (refine Go.run (g:=?_))
  rw [decide_eq_false h0']
  (refine Go.run (g:=?_))
  (first|refine Go.finA rfl ?_|refine Go.finB rfl (hq:=?_))
  exact .inl rfl
 have hz1 := hz.same s1
 (refine Go.run (g:=?_))
 rw [decide_eq_false h0']
 (refine Go.run (g:=?_))
 refine GoR.minI rfl rfl rfl rfl rfl rfl ?_
 obtain ⟨s, hs⟩ : ∃ s, s = min size.toNat m.z.length := ⟨_, rfl⟩
 rw [show (if ((m.z.length : Nat) : Int) < size then ((m.z.length : Nat) : Int) else size) = ((s : Nat) : Int) by split <;> omega]
 have hs1 : 0 < s ∧ s ≤ m.z.length := by omega
 rw [← hs]
 clear hs
 obtain ⟨K, hK1, hK2, hK0⟩ : ∃ K, m.z.length ≤ K * s ∧ (∀ j, j < K → j * s < m.z.length) ∧ 0 < K := by
  refine ⟨(m.z.length + s - 1) / s, ?_, fun j hj => ?_, Nat.div_pos (by omega) hs1.1⟩
  ·
   have := Nat.div_add_mod (m.z.length + s - 1) s
   have := Nat.mod_lt (m.z.length + s - 1) hs1.1
   rw [Nat.mul_comm]; omega
  ·
   have h2 : (j + 1) * s ≤ (m.z.length + s - 1) / s * s := Nat.mul_le_mul_right s hj
   have h3 := Nat.div_mul_le_self (m.z.length + s - 1) s
   rw [Nat.succ_mul] at h2
   omega
 have hKz : K ≤ m.z.length := by
  have := hK2 (K - 1) (by omega)
  have h2 : K - 1 ≤ (K - 1) * s := Nat.le_mul_of_pos_right _ hs1.1
  omega
 (refine Go.run (g:=?_))
 refine GoR.name ?_
 intro h2 e2
 have s2 : Same h1 h2 := by subst e2; exact (Same.refl h1).push _
 have go2 : h2.get h1.n = some (.cells [.slice none 0 0] 66) := by subst e2; exact AHeap.get_push_same _ _
 have n2 : h2.n = h1.n + 1 := by subst e2; rfl
 clear e2
 refine GoR.call rfl rfl rfl rfl rfl rfl rfl (((chunkCall_spec m.a m.z.length m.cap s hs1.1 _).argA).mono ?_)
 rintro _ _ ⟨rfl, rfl⟩ -
 (refine Go.run (g:=?_))
 refine Go.name ?_
 intro h3 e3
 have s3 : Same h2 h3 := by subst e3; exact ((Same.refl h2).push _).push _
 have n3 : h3.n = h2.n + 2 := by subst e3; rfl
 have gsb : h3.get h2.n = some (.cells [.slice m.a m.z.length m.cap] 31) := by subst e3; exact get_push_lt (AHeap.get_push_same _ _)
 have gnb : h3.get (h2.n + 1) = some (.cells [.int .i64 (s : Nat)] 3) := by subst e3; exact AHeap.get_push_same (h2.push _) _
 clear e3
 have S3 := (s1.trans s2).trans s3
 have hz3 := hz.same S3
 have gm3 := s3.get (s2.get g1)
 have go3 := s3.get go2
 clear g1 go2 hz1
 refine Go.rangeFunc' (wr := [h3.n + 1, h1.n, h3.n]) rfl (by rfl) (by kernel_rfl) ?_
 intro tm pa asg bo HH epa easg ebo eH hN hr
 have Hs : Same h3 HH := by subst eH; exact ((Same.refl h3).push _).push _
 have Hl : HH.get (h3.n + 1) = some (.loop .ready none tm pa asg bo h3.n) := by subst eH; exact AHeap.get_push_same (h3.push _) _
 have Hd : HH.get h3.n = some (.deferred true) := by subst eH; exact get_push_lt (AHeap.get_push_same _ _)
 have Hn : HH.n = h3.n + 2 := by subst eH; rfl
 clear eH
 refine ((chunk1_spec (l := h3.n + 1) (σ := List PV × Option Addr × Nat) (wrO := fun x => [h1.n, h3.n] ++ blk x.2.1) (inv := fun x j H => CInv HH tm pa asg bo m s (h3.n + 1) h3.n h1.n h.n x j H) h2.n (h2.n + 1) m.a m.cap m.z s K hs1.1 hs1.2 hlen hK1 hK2 _ ([], none, 0) ?Y ?i0 (Hs.get gsb) (Hs.get gnb) (hz3.same Hs) ?p1 ?p2 ?p3).args rfl).mono ?_
 case p1 => simp [blk]; omega
 case p2 => simp [blk]; omega
 case p3 => intro i hi; have := hlt i hi; simp [blk]; omega
 case i0 => exact ⟨Hl, Hd, Hs.get go3, Hs.get gm3, .nil, Own.nil _, (fun p hp => by cases hp), ⟨fun j hj => by cases hj⟩, rfl, Nat.le_refl _⟩
 case Y =>
  refine ⟨?_, ?_⟩
  ·
   rintro x j H H' I sm
   exact ⟨sm.get I.loop, sm.get I.mark, sm.get I.out, sm.get I.msg, I.row.same sm, I.own, fun p hp => (I.dv p hp).same sm, I.cut, I.len, Nat.le_trans I.n0 sm.1⟩
  ·
   rintro ⟨ps, oa, oc⟩ j H a I hj hza hna
   have Iout : H.get h1.n = some (.cells [.slice oa ps.length oc] 66) := I.out
   have Irow : Sv H 33 6 oa ps.length oc (pcs ps) := I.row
   have Iown : Own HH.n oa := I.own
   have Idv : ∀ p ∈ ps, Sv H 5 1 p.a p.z.length p.cap (p.z.map bv) := I.dv
   have Icut : CutI m s ps := I.cut
   have Ilen : ps.length = j := I.len
   have In0 := I.n0
   have Imsg := I.msg
   have Imark := I.mark
   have Iloop := I.loop
   clear I
   have hcl : (chunkZ m.z s j).length ≤ 2000000 := by unfold chunkZ; rw [List.length_take, List.length_drop]; omega
   obtain ⟨z, hzj⟩ : ∃ z, z = chunkZ m.z s j := ⟨_, rfl⟩
   rw [← hzj] at hza hcl ⊢
   refine YieldS.of' Iloop hN hr epa easg ebo rfl (by rfl) rfl (List.mem_cons_self ..) ?_
   (refine Go.run (g:=?_))
   refine Go.body Iloop ?_
   refine Go.name ?_
   intro h6 e6
   have k6 : Keeps [h3.n + 1] H h6 := by subst e6; exact (Keeps.rfl _ _).put (by simp) _
   have n6 : h6.n = H.n := by subst e6; rfl
   have l6 : h6.get (h3.n + 1) = some (.loop .busy none tm pa asg bo h3.n) := by subst e6; exact get_put_self Iloop
   clear e6
   have go6 := k6.get Iout (by simp; omega)
   have gm6 := k6.get Imsg (by simp; omega)
   have gd6 := k6.get Imark (by simp)
   have row6 := Irow.keeps k6 (fun i hi hm => by simp only [List.mem_singleton] at hm; subst hm; exact sv_out Irow Iloop (fun c e => by cases e) hi)
   have dv6 := fun p hp => (Idv p hp).keeps k6 (fun i hi hm => by simp only [List.mem_singleton] at hm; subst hm; exact sv_out (Idv p hp) Iloop (fun c e => by cases e) hi)
   have hza6 := hza.keeps k6 (fun i hi hm => hna i hi (by simp only [List.mem_singleton] at hm; simp [hm]))
   have hol : ∀ i ∈ blk oa, i < H.n := Irow.lt
   have hHN := AHeap.lt Iloop
   clear Iout Imsg Imark Irow Idv hza
   simp only [iC] at gm6
   (refine Go.run (g:=?_))
   refine Go.loud (by kernel_rfl) rfl ?_
   (refine Go.runL (g:=?_))
   refine GoL.callS rfl rfl rfl rfl rfl rfl rfl (((bclone_spec a z.length z (by omega) _ hza6).argA).mono ?_)
   rintro _ h7 ⟨a7, c7, rfl, S7, O7⟩ s7
   have n7 := s7.1
   (refine Go.runL (g:=?_))
   refine GoL.st (g:=?_)
   (refine Go.runL (g:=?_))
   (refine GoL.end_ (g:=?_))
   refine Go.name ?_
   intro h8 e8
   have s8 : Same h7 h8 := by subst e8; exact ((Same.refl h7).push _).put (Nat.le_refl _) _
   have g8 : h8.get h7.n = some (.cells [.int .u32 0, .int .u8 0, .int .u16 (m.sid : Nat), .int .u16 0, .int .u32 (m.ppid : Nat), .slice a7 z.length c7] 33) := by subst e8; exact hg_
   have n8 : h8.n = h7.n + 1 := by subst e8; rfl
   clear e8
   have S8 := s7.trans s8
   have go8 := S8.get go6
   have gm8 := S8.get gm6
   have gd8 := S8.get gd6
   have l8 := S8.get l6
   have row8 := row6.same S8
   have dv8 := fun p hp => (dv6 p hp).same S8
   have D8 := S7.same s8
   clear go6 gm6 gd6 l6 row6 dv6 hza6 S7 s7 s8
   (refine Go.run (g:=?_))
   refine Go.join1 (α := AHeap) (fun _ => [(8, .pointer (some ⟨h7.n, 0, none⟩)), (6, .pointer (some ⟨h1.n, 0, none⟩)), (2, .pointer (some ⟨h.n, 0, none⟩))]) (fun _ => []) (fun x => x) (fun x => Keeps [h7.n] h8 x ∧ x.get h7.n = some (.cells [.int .u32 0, .int .u8 (fl0 m.un : Nat), .int .u16 (m.sid : Nat), .int .u16 0, .int .u32 (m.ppid : Nat), .slice a7 z.length c7] 33)) ?_ ?_
   ·
    cases hun : m.un with
    | true =>
     (refine Go.run (g:=?_))
     exact Go.joined _ ⟨(Keeps.rfl _ _).put (by simp) _, get_put_self g8⟩ ⟨rfl, rfl, rfl, trivial⟩ rfl rfl
    | false =>
     (refine Go.run (g:=?_))
     exact Go.joined h8 ⟨Keeps.rfl _ _, g8⟩ ⟨rfl, rfl, rfl, trivial⟩ rfl rfl
   rintro h9 ⟨k9, g9⟩
   simp only at k9 g9 ⊢
   have n9 := k9.1
   have hna : ∀ {x : Nat} {o : AObj}, h8.get x = some o → (∀ c, o ≠ .cells c 33) → x ∉ [h7.n] := fun {x o} hx ho hm => by
    simp only [List.mem_singleton] at hm
    subst hm
    rw [g8] at hx
    cases hx
    exact ho _ rfl
   have hnd : ∀ {a : Option Addr} {len cap : Nat} {cs : List Value}, Sv h8 5 1 a len cap cs → ∀ i ∈ blk a, i ∉ [h7.n] := fun d i hi hm => by
    simp only [List.mem_singleton] at hm
    subst hm
    exact sv_out d g8 (fun c e => by cases e) hi
   have go9 := k9.get go8 (hna go8 (fun c e => by cases e))
   have gm9 := k9.get gm8 (hna gm8 (fun c e => by cases e))
   have gd9 := k9.get gd8 (hna gd8 (fun c e => by cases e))
   have l9 := k9.get l8 (hna l8 (fun c e => by cases e))
   have row9 := row8.keeps k9 (fun i hi hm => by simp only [List.mem_singleton] at hm; have := hol i hi; omega)
   have dv9 := fun p hp => (dv8 p hp).keeps k9 (hnd (dv8 p hp))
   have D9 := D8.keeps k9 (hnd D8)
   clear go8 gm8 gd8 l8 row8 dv8 D8 hna hnd k9 g8
   obtain ⟨p, hp⟩ : ∃ p : PV, p = ⟨0, fl0 m.un, m.sid, 0, m.ppid, a7, c7, z⟩ := ⟨_, rfl⟩
   (refine Go.run (g:=?_))
   refine GoR.buildRo (c := pC p) rfl rfl rfl rfl rfl (by decide) (by rw [hp]; rfl) (by rfl) ?_
   intro b10 h10 hb10 rb10 ob10 s10 n10
   have row10 := row9.same s10
   refine GoR.appendV rfl rfl rfl rfl rfl rfl row10 hb10 (fun i hi => .inl (by simp [hi])) (by omega) (by omega) (by rfl) ?_
   intro b11 c11 h11 hs11 k11 o11
   have n11 := k11.1
   rw [← pcs_snoc] at hs11
   have hna : ∀ {x : Nat} {o : AObj}, h10.get x = some o → (∀ c, o ≠ .cells c 33) → x ∉ blk oa := fun {x o} hx ho => sv_out row10 hx ho
   have go11 := k11.get (s10.get go9) (hna (s10.get go9) (fun c e => by cases e))
   have gm11 := k11.get (s10.get gm9) (hna (s10.get gm9) (fun c e => by cases e))
   have gd11 := k11.get (s10.get gd9) (hna (s10.get gd9) (fun c e => by cases e))
   have l11 := k11.get (s10.get l9) (hna (s10.get l9) (fun c e => by cases e))
   have dv11 := fun q hq => ((dv9 q hq).same s10).keeps k11 (sv_sv ((dv9 q hq).same s10) row10 (by decide))
   have D11 := (D9.same s10).keeps k11 (sv_sv (D9.same s10) row10 (by decide))
   have dvA : ∀ q ∈ ps ++ [p], Sv h11 5 1 q.a q.z.length q.cap (q.z.map bv) := fun q hq => by
    rcases List.mem_append.1 hq with hq | hq
    · exact dv11 q hq
    · rw [List.mem_singleton.1 hq, hp]; exact D11
   refine GoR.store rfl rfl rfl rfl rfl go11 rfl rfl (by simp [cellsL]) rfl rfl (.inl (by simp)) ?_
   refine GoR.name ?_
   intro h12 e12
   have k12 : Keeps [h1.n] h11 h12 := by subst e12; exact (Keeps.rfl _ _).put (by simp) _
   have go12 : h12.get h1.n = some (.cells [.slice b11 (ps.length + 1) c11] 66) := by subst e12; exact get_put_self go11
   have n12 : h12.n = h11.n := by subst e12; rfl
   clear e12
   have hna : ∀ {x : Nat} {o : AObj}, h11.get x = some o → (∀ c, o ≠ .cells c 66) → x ∉ [h1.n] := fun {x o} hx ho hm => by
    simp only [List.mem_singleton] at hm
    subst hm
    rw [go11] at hx
    cases hx
    exact ho _ rfl
   have hnv : ∀ {t : TypeId} {sz : Nat} {a : Option Addr} {len cap : Nat} {cs : List Value}, Sv h11 t sz a len cap cs → t ≠ 66 → ∀ i ∈ blk a, i ∉ [h1.n] := fun d ht i hi hm => by
    simp only [List.mem_singleton] at hm
    subst hm
    exact sv_out d go11 (fun c e => ht (by cases e; rfl)) hi
   have gm12 := k12.get gm11 (hna gm11 (fun c e => by cases e))
   have gd12 := k12.get gd11 (hna gd11 (fun c e => by cases e))
   have l12 := k12.get l11 (hna l11 (fun c e => by cases e))
   have row12 := hs11.keeps k12 (hnv hs11 (by decide))
   have dv12 := fun q hq => (dvA q hq).keeps k12 (hnv (dvA q hq) (by decide))
   (refine Go.run (g:=?_))
   refine Go.roundEnd rfl l12 ?_
   have hna : ∀ {x : Nat} {o : AObj}, h12.get x = some o → (∀ a b c d e f g, o ≠ .loop a b c d e f g) → x ≠ h3.n + 1 := fun {x o} hx ho e => by
    subst e
    rw [l12] at hx
    cases hx
    exact ho _ _ _ _ _ _ _ rfl
   have kl : Keeps [h3.n + 1] h12 (h12.put (h3.n + 1) (some (.loop .ready none tm pa asg bo h3.n))) := (Keeps.rfl _ _).put (by simp) _
   have hnl : ∀ {t : TypeId} {sz : Nat} {a : Option Addr} {len cap : Nat} {cs : List Value}, Sv h12 t sz a len cap cs → ∀ i ∈ blk a, i ∉ [h3.n + 1] := fun d i hi hm => by
    simp only [List.mem_singleton] at hm
    subst hm
    exact sv_out d l12 (fun c e => by cases e) hi
   refine ⟨rfl, (ps ++ [p], b11, c11), fun b hb => ?_, ⟨get_put_self l12, kl.get gd12 (fun hm => hna gd12 (by intros; exact fun e => by cases e) (List.mem_singleton.1 hm)), ?_, kl.get gm12 (fun hm => hna gm12 (by intros; exact fun e => by cases e) (List.mem_singleton.1 hm)), ?_, ?_, fun q hq => (dv12 q hq).keeps kl (hnl (dv12 q hq)), ?_, ?_, ?_⟩⟩
   ·
    rcases List.mem_append.1 hb with x | x
    · exact .inl (List.mem_append_left _ x)
    ·
     rcases o11 b x with y | y
     · exact .inl (List.mem_append_right _ y)
     · exact .inr (by omega)
   ·
    rw [List.length_append]
    exact kl.get go12 (fun hm => hna go12 (by intros; exact fun e => by cases e) (List.mem_singleton.1 hm))
   ·
    rw [List.length_append]
    exact row12.keeps kl (hnl row12)
   ·
    intro i hi
    rcases o11 i hi with y | y
    · exact Iown i y
    · omega
   ·
    refine ⟨fun i hi => ?_⟩
    rcases Nat.lt_or_ge i ps.length with q | q
    ·
     rw [List.getElem_append_left q]
     exact Icut.each i q
    ·
     have : i = ps.length := by rw [List.length_append, List.length_singleton] at hi; omega
     subst this
     rw [List.getElem_append_right (Nat.le_refl _)]
     simp only [Nat.sub_self, List.getElem_singleton]
     rw [hp]
     exact ⟨rfl, rfl, rfl, rfl, by rw [hzj, Ilen], rfl⟩
   · simp [Ilen]
   · simp only [AHeap.n_put]; omega
 rintro v H3 ⟨⟨ps, oa, oc⟩, I⟩ kp
 refine ⟨fun i hi => .inr (by simp only [List.mem_cons, List.not_mem_nil, or_false] at hi; omega), .inr (by omega), ?_⟩
 have Iout : H3.get h1.n = some (.cells [.slice oa ps.length oc] 66) := I.out
 have Irow : Sv H3 33 6 oa ps.length oc (pcs ps) := I.row
 have Iown : Own HH.n oa := I.own
 have Idv : ∀ p ∈ ps, Sv H3 5 1 p.a p.z.length p.cap (p.z.map bv) := I.dv
 have Icut : CutI m s ps := I.cut
 have Ilen : ps.length = K := I.len
 have Imark := I.mark
 have Iloop := I.loop
 have In0 := I.n0
 clear I kp
 refine ⟨_, _, _, _, _, _, _, .normal, Iloop, by rfl, rfl, ?_⟩
 refine Go.name ?_
 intro h9 e9
 have k9 : Keeps [h3.n + 1] H3 h9 := by subst e9; exact (Keeps.rfl _ _).put (by simp) _
 have n9 : h9.n = H3.n := by subst e9; rfl
 clear e9
 have hna : ∀ {x : Nat} {o : AObj}, H3.get x = some o → (∀ a b c d e f g, o ≠ .loop a b c d e f g) → x ∉ [h3.n + 1] := fun {x o} hx ho hm => by
  have e := List.mem_singleton.1 hm
  subst e
  rw [Iloop] at hx
  cases hx
  exact ho _ _ _ _ _ _ _ rfl
 have hnl : ∀ {t : TypeId} {sz : Nat} {a : Option Addr} {len cap : Nat} {cs : List Value}, Sv H3 t sz a len cap cs → ∀ i ∈ blk a, i ∉ [h3.n + 1] := fun d i hi hm => by
  have e := List.mem_singleton.1 hm
  subst e
  exact sv_out d Iloop (fun c e => by cases e) hi
 have go9 := k9.get Iout (hna Iout (by intros; exact fun e => by cases e))
 have gd9 := k9.get Imark (hna Imark (by intros; exact fun e => by cases e))
 have row9 := Irow.keeps k9 (hnl Irow)
 have dv9 := fun q hq => (Idv q hq).keeps k9 (hnl (Idv q hq))
 have hps : 0 < ps.length := by omega
 have e0 : (pcs ps)[0 * 6 + 1]? = some (.int .u8 (fl0 m.un : Nat)) := by
  rw [pcs_at hps (by decide), ← (Icut.each 0 hps).2.2.2.2.2]
  rfl
 have hpl := pcs_len ps
 have hb1 : 0 * 6 < (pcs ps).length := by omega
 have hf4 : fl0 m.un < 256 := by unfold fl0; split <;> omega
 have hf5 : fl0 m.un ||| 2 < 256 := by unfold fl0; split <;> decide
 (refine Go.run (g:=?_))
 have wN : ∀ i ∈ blk oa, i ∈ ([] : List Nat) ∨ h.n ≤ i := fun i hi => .inr (by have := Iown i hi; omega)
 refine GoR.storeV (l := [.int .u8 (fl0 m.un ||| 2 : Nat)]) (n := 1) rfl rfl rfl rfl rfl rfl rfl rfl (by decide) row9 (show 0 * 6 + 1 + 1 ≤ (pcs ps).length by omega) wN ?_
 intro h10 row10 k10 n10
 have ep := pcs_set hps (fl0 m.un ||| 2)
 obtain ⟨ps1, hps1⟩ : ∃ ps1, ps1 = ps.set 0 { ps[0] with fl := fl0 m.un ||| 2 } := ⟨_, rfl⟩
 have hl1 : ps1.length = ps.length := by rw [hps1, List.length_set]
 rw [ep, ← hps1, ← hl1] at row10
 have hna : ∀ {x : Nat} {o : AObj}, h9.get x = some o → (∀ c, o ≠ .cells c 33) → x ∉ blk oa := fun {x o} hx ho => sv_out row9 hx ho
 have go10 := k10.get go9 (hna go9 (fun c e => by cases e))
 have gd10 := k10.get gd9 (hna gd9 (fun c e => by cases e))
 rw [← hl1] at go10
 have dv10 := fun q hq => (dv9 q hq).keeps k10 (sv_sv (dv9 q hq) row9 (by decide))
 clear hna go9 gd9 row9 dv9 e0 hb1
 obtain ⟨f, hf⟩ : ∃ f, f = (ps1[ps1.length - 1]'(by omega)).fl := ⟨_, rfl⟩
 have e0 : (pcs ps1)[(ps1.length - 1) * 6 + 1]? = some (.int .u8 (f : Nat)) := by
  rw [pcs_at (by omega) (by decide), hf]
  rfl
 have hf6 : f = if ps.length - 1 = 0 then fl0 m.un ||| 2 else fl0 m.un := by
  rw [hf]
  simp only [hps1, List.length_set, List.getElem_set]
  by_cases q : ps.length - 1 = 0
  · rw [if_pos q.symm, if_pos q]
  ·
   rw [if_neg (fun e => q e.symm), if_neg q]
   exact (Icut.each (ps.length - 1) (by omega)).2.2.2.2.2
 have hf7 : f < 256 := by rw [hf6]; split <;> assumption
 have hf8 : f ||| 1 = flC m.un ps.length (ps.length - 1) := by rw [hf6]; unfold flC; rw [if_pos rfl]
 have hpl1 := pcs_len ps1
 have hb1 : (ps1.length - 1) * 6 < (pcs ps1).length := by omega
 (refine Go.run (g:=?_))
 refine GoR.storeV (l := [.int .u8 (f ||| 1 : Nat)]) (n := 1) rfl rfl rfl rfl rfl rfl rfl rfl (by decide) row10 (show (ps1.length - 1) * 6 + 1 + 1 ≤ (pcs ps1).length by omega) wN ?_
 intro h11 row11 k11 n11
 have ep1 := pcs_set (ps := ps1) (i := ps1.length - 1) (by omega) (f ||| 1)
 have hcp := cutP_of Icut hps (by rw [Ilen]; exact hK1) (fun j hj => hK2 j (by omega)) hf8
 simp only [← hps1] at hcp
 simp only [hl1] at ep1 row11 hcp
 obtain ⟨ps2, hps2⟩ : ∃ ps2, ps2 = ps1.set (ps.length - 1) { ps1[ps.length - 1]'(by omega) with fl := f ||| 1 } := ⟨_, rfl⟩
 have hl2 : ps2.length = ps1.length := by rw [hps2, List.length_set]
 rw [ep1, ← hps2] at row11
 rw [← hps2] at hcp
 have hna : ∀ {x : Nat} {o : AObj}, h10.get x = some o → (∀ c, o ≠ .cells c 33) → x ∉ blk oa := fun {x o} hx ho => sv_out row10 hx ho
 have go11 := k11.get go10 (hna go10 (fun c e => by cases e))
 have gd11 := k11.get gd10 (hna gd10 (fun c e => by cases e))
 have dv11 := fun q hq => (dv10 q hq).keeps k11 (sv_sv (dv10 q hq) row10 (by decide))
 clear hna go10 gd10 row10 dv10
 (refine Go.run (g:=?_))
 refine Go.fin_marks (.inr rfl) (by intro d hd; simp only [List.mem_singleton] at hd; omega) (takeAll_one gd11) (.tmp rfl (.tmp rfl .nil)) ?_
 have kd : Keeps [h3.n] h11 (h11.put h3.n (some (.deferred false))) := (Keeps.rfl _ _).put (by simp) _
 have hnl : ∀ {t : TypeId} {sz : Nat} {a : Option Addr} {len cap : Nat} {cs : List Value}, Sv h11 t sz a len cap cs → ∀ i ∈ blk a, i ∉ [h3.n] := fun d i hi hm => by
  have e := List.mem_singleton.1 hm
  subst e
  exact sv_out d gd11 (fun c e => by cases e) hi
 have hdv : ∀ p ∈ ps2, Sv h11 5 1 p.a p.z.length p.cap (p.z.map bv) := fun p hp => by
  have d1 := dv_set dv11 hps (fl0 m.un ||| 2)
  rw [← hps1] at d1
  have d2 := dv_set d1 (i := ps.length - 1) (by omega) (f ||| 1)
  rw [← hps2] at d2
  exact d2 p hp
 rw [show ps.length = ps2.length by rw [hl2, hl1]] at row11
 rw [← hl2]
 exact .inr ⟨h0, by omega, oa, oc, ps2, rfl, hcp, row11.keeps kd (hnl row11), Iown.mono (by omega), fun p hp => (hdv p hp).keeps kd (hnl (hdv p hp))⟩
end Go.Proofs.Ytccbmmnkiihkaaa
namespace Go.Proofs.Ytccbmmnkiihkaaa
set_option maxRecDepth 100000
attribute [local irreducible] Go GoR GoL
def snC (x : IM × Int) : List Value := iC x.1 ++ [.int .i64 x.2]
def sns (l : List (IM × Int)) : List Value := (l.map snC).flatten
theorem sns_len (l : List (IM × Int)) : (sns l).length = l.length * 5 := by
 induction l with
 | nil => rfl
 | cons x l ih => simp only [sns, List.map_cons, List.flatten_cons, List.length_append, snC, iC, List.length_cons, List.length_nil] at ih ⊢; omega
theorem sns_get : ∀ {l : List (IM × Int)} {i : Nat} (hi : i < l.length), ((sns l).drop (i * 5)).take 5 = snC l[i]
 | x :: l, 0, _ => rfl
 | x :: l, i + 1, hi => by
  have := sns_get (l := l) (i := i) (by simpa using hi)
  rw [show (i + 1) * 5 = i * 5 + 1 + 1 + 1 + 1 + 1 by omega]
  exact this
theorem sns_at {l : List (IM × Int)} {i : Nat} (hi : i < l.length) {j : Nat} (hj : j < 5) : (sns l)[i * 5 + j]? = (snC l[i])[j]? := by
 rw [← sns_get hi, List.getElem?_take, if_pos hj, List.getElem?_drop]
def rn1 (t : Nat) (un : Bool) (s : Nat) (p : PV) : PV := { p with t := t, ssn := if un = true then p.ssn else s }
def rnum (T n : Nat) (un : Bool) (s : Nat) : List PV → List PV
 | [] => []
 | p :: r => rn1 (at32 T n) un s p :: rnum T (n + 1) un s r
theorem rnum_len (T : Nat) (un : Bool) (s : Nat) : ∀ (n : Nat) (l : List PV), (rnum T n un s l).length = l.length
 | n, [] => rfl
 | n, p :: r => congrArg Nat.succ (rnum_len T un s (n + 1) r)
theorem rnum_snoc (T : Nat) (un : Bool) (s : Nat) (p : PV) : ∀ (n : Nat) (l : List PV), rnum T n un s (l ++ [p]) = rnum T n un s l ++ [rn1 (at32 T (n + l.length)) un s p]
 | n, [] => rfl
 | n, q :: r => by
  show _ :: rnum T (n + 1) un s (r ++ [p]) = _ :: (rnum T (n + 1) un s r ++ _)
  rw [rnum_snoc T un s p (n + 1) r, show n + (q :: r).length = n + 1 + r.length by simp only [List.length_cons]; omega]
theorem rnum_get (T : Nat) (un : Bool) (s : Nat) : ∀ (n : Nat) (l : List PV) (j : Nat) (h : j < l.length), (rnum T n un s l)[j]'(by rw [rnum_len]; exact h) = rn1 (at32 T (n + j)) un s l[j]
 | n, p :: r, 0, _ => rfl
 | n, p :: r, j + 1, h => by
  have := rnum_get T un s (n + 1) r j (by simpa using h)
  simp only [List.getElem_cons_succ] at this ⊢
  rw [show n + (j + 1) = n + 1 + j by omega]
  exact this
inductive SentR (st : Nat) (most : Int) (T : Nat) : List (IM × Int) → List (Nat × Nat) → List PV → Prop
 | nil : SentR st most T [] [] []
 | snoc {l : List (IM × Int)} {nx : List (Nat × Nat)} {all cs : List PV} {m : IM} {size : Int} (h : SentR st most T l nx all) (h0 : m.z.length ≠ 0) (h1 : 1 ≤ size) (c : CutP m (min size.toNat m.z.length) cs) (h2 : (m.z.length : Int) ≤ most) (h3 : m.sid < st) : SentR st most T (l ++ [(m, size)]) (if m.un = true then nx else nput nx m.sid (nx16 (nget nx m.sid))) (all ++ rnum T all.length m.un (nget nx m.sid) cs)
theorem CutP.len {m : IM} {s : Nat} {ps : List PV} (c : CutP m s ps) (h0 : m.z.length ≠ 0) (hs : 0 < s) : 0 < ps.length ∧ ps.length ≤ m.z.length := by
 have h1 : 0 < ps.length := by
  rcases Nat.eq_zero_or_pos ps.length with q | q
  ·
   have := c.K1
   rw [q, Nat.zero_mul] at this
   omega
  · exact q
 refine ⟨h1, ?_⟩
 have h2 := c.K2 (ps.length - 1) (by omega)
 have h3 : ps.length - 1 ≤ (ps.length - 1) * s := Nat.le_mul_of_pos_right _ hs
 omega
theorem nxt_at {f k : Nat} : nxt32 (at32 f k) = at32 f (k + 1) := by unfold nxt32 at32; omega
theorem at32_lt (f k : Nat) : at32 f k < 4294967296 := Nat.mod_lt _ (by decide)
set_option maxHeartbeats 32000000 in
theorem pieces_spec (l : List (IM × Int)) (a : Option Addr) (cap st : Nat) (most : Int) (T : Nat) (hT : T < 4294967296) (h : AHeap) (hl : l.length ≤ 60) (hz : Rv Try.prog h 5 a l.length cap (sns l)) (hlen : ∀ x ∈ l, x.1.z.length ≤ 2000000) (hsid : ∀ x ∈ l, x.1.sid < 65536) (hd : ∀ x ∈ l, Rv Try.prog h 1 x.1.a x.1.z.length x.1.cap (x.1.z.map bv)) : CallS Try.prog [] 25 [.slice a l.length cap, .int .u16 st, .int .i64 most, .int .u32 T] h fun v h' =>
  ∃ b n c ok, v = .tuple #[.slice b n c, .bool ok] ∧ (ok = true → ∃ ps nx, n = ps.length ∧ n ≤ 60 ∧ SentR st most T l nx ps ∧ Sv h' 33 6 b ps.length c (pcs ps) ∧ Own h.n b ∧ ∀ p ∈ ps, Sv h' 5 1 p.a p.z.length p.cap (p.z.map bv)) := by
 have hlt := hz.lt
 (refine CallS.of4 Try.func25 rfl Try.ntmps25 Try.results25 rfl ?_)
 (refine Go.run (g:=?_))
 refine GoR.makeMapI rfl rfl rfl rfl ?_
 intro h1 M1 s1 n1
 have M1' := M1 .u16
 have hz1 := hz.same s1
 (refine Go.run (g:=?_))
 refine Go.loop (α := Nat × List (Nat × Nat) × List PV × Option Addr × Nat × AHeap) (fun x => [(21, .int .i64 (x.1 : Nat)), (20, .int .i64 l.length), (19, .slice a l.length cap), (10, .map (some h.n)), (11, .slice x.2.2.2.1 x.2.2.1.length x.2.2.2.2.1), (1, .int .u16 st), (2, .int .i64 most), (3, .int .u32 (at32 T x.2.2.1.length : Nat)), (8, .slice none 0 0), (9, .bool false)]) (fun _ => []) (fun x => x.2.2.2.2.2) (fun x => x.1 ≤ l.length ∧ SentR st most T (l.take x.1) x.2.1 x.2.2.1 ∧ x.2.2.1.length ≤ x.1 * 2000000 ∧ SMap x.2.2.2.2.2 h.n .u16 (nv x.2.1) ∧ (∀ p ∈ x.2.1, p.2 < 65536) ∧ Sv x.2.2.2.2.2 33 6 x.2.2.2.1 x.2.2.1.length x.2.2.2.2.1 (pcs x.2.2.1) ∧ Own h1.n x.2.2.2.1 ∧ (∀ p ∈ x.2.2.1, Sv x.2.2.2.2.2 5 1 p.a p.z.length p.cap (p.z.map bv)) ∧ Same h x.2.2.2.2.2 ∧ h1.n ≤ x.2.2.2.2.2.n) (fun x => l.length - x.1) (0, [], [], none, 0, h1) ⟨Nat.zero_le _, .nil, Nat.zero_le _, M1', (fun p hp => by cases hp), .nil, Own.nil _, (fun p hp => by cases hp), s1, Nat.le_refl _⟩ ⟨rfl, rfl, rfl, rfl, rfl, rfl, rfl, by simp only [List.length_nil]; rw [show at32 T 0 = T from by unfold at32; omega]; rfl, rfl, rfl, trivial⟩ rfl rfl ?_
 clear hz1 M1 M1'
 rintro ⟨i, nx, all, b, c, H⟩ ⟨hi, hS, hal, hM, hnx, hrow, hown, hdv, hsm, hHn⟩
 simp only at hi hS hal hM hnx hrow hown hdv hsm hHn ⊢
 have hz1 := hz.same hsm
 rcases Nat.lt_or_ge i l.length with i0 | i0
 case inr =>
  obtain rfl : i = l.length := by omega
  rw [List.take_length] at hS
  (refine Go.run (g:=?_))
  (first|refine Go.finA rfl ?_|refine Go.finB rfl (hq:=?_))
  refine ⟨b, all.length, c, decide ((all.length : Int) ≤ 60), rfl, fun hok => ⟨all, nx, rfl, ?_, hS, hrow, hown.mono (by omega), hdv⟩⟩
  have := of_decide_eq_true hok
  omega
 have c0 := sns_get i0
 have hbe : i * 5 + 5 ≤ (sns l).length := by rw [sns_len]; omega
 have hmem := List.getElem_mem i0
 have hzl := hlen _ hmem
 have hsd := hsid _ hmem
 have hd1 := (hd _ hmem).same hsm
 have htk : l.take (i + 1) = l.take i ++ [l[i]] := by rw [List.take_add_one, List.getElem?_eq_getElem i0]; rfl
 have hpe : l[i] = (l[i].1, l[i].2) := rfl
 rw [hpe] at htk
 clear hpe hmem
 simp only [snC, iC, List.cons_append, List.nil_append] at c0
 generalize l[i].1 = m at *
 generalize l[i].2 = size at *
 have hMlt := hM.lt
 (refine Go.run (g:=?_))
 refine GoR.name ?_
 intro H1 e1
 have t1 : Same H H1 := by subst e1; exact ((Same.refl H).push _).put (Nat.le_refl _) _
 have g13 : H1.get H.n = some (.cells [.int .u16 (m.sid : Nat), .bool m.un, .int .u32 (m.ppid : Nat), .slice m.a m.z.length m.cap, .int .i64 size] 72) := by subst e1; exact hg_
 have m1 : H1.n = H.n + 1 := by subst e1; rfl
 clear e1
 have hM1 := hM.same t1
 have row1 := hrow.same t1
 have dv1 := fun p hp => (hdv p hp).same t1
 have hd2 := hd1.same t1
 have sm1 := hsm.trans t1
 have hol := hrow.lt
 clear hM hrow hdv hd1 hsm hz1
 have hcut := cut_spec m size H1 (by omega) hd2
 (refine Go.run (g:=?_))
 refine GoR.call rfl rfl rfl rfl rfl rfl rfl (((hcut).argA).mono ?_)
 rintro v H2 hv t2
 have m2 := t2.1
 rcases hv with rfl | ⟨h0, hs1, bc, cc, cs, rfl, hcp, crow, cown, cdv⟩
 ·
  (refine Go.run (g:=?_))
  (first|refine Go.finA rfl ?_|refine Go.finB rfl (hq:=?_))
  exact ⟨none, 0, 0, false, rfl, fun e => by cases e⟩
 have g23 := t2.get g13
 by_cases h2 : (m.z.length : Int) > most
 ·
  (refine Go.run (g:=?_))
  (first|refine Go.finA rfl ?_|refine Go.finB rfl (hq:=?_))
  exact ⟨none, 0, 0, false, rfl, fun e => by cases e⟩
 by_cases h3 : m.sid ≥ st
 ·
  have h3' : (m.sid : Int) ≥ (st : Int) := by omega
  (refine Go.run (g:=?_))
  (first|refine Go.finA rfl ?_|refine Go.finB rfl (hq:=?_))
  exact ⟨none, 0, 0, false, rfl, fun e => by cases e⟩
 have h3' : ¬ (m.sid : Int) ≥ (st : Int) := by omega
 obtain ⟨hcl0, hcl1⟩ := hcp.len h0 (by omega)
 have hM2 := hM1.same t2
 have row2 := row1.same t2
 have dv2 := fun p hp => (dv1 p hp).same t2
 have sm2 := sm1.trans t2
 clear hM1 row1 dv1 sm1 hd2 g13
 (refine Go.run (g:=?_))
 have hbc : ∀ i ∈ blk b, i ∉ blk bc := fun i hi hm => by have := hol i hi; have := cown i hm; omega
 have hclt := crow.lt
 obtain ⟨sn, hsn⟩ : ∃ sn, sn = nget nx m.sid := ⟨_, rfl⟩
 have hsn1 : sn < 65536 := by rw [hsn]; exact nget_lt hnx
 clear c0 hbe
 refine Go.loop (α := Nat × List PV × Option Addr × Nat × AHeap) (fun x => [(52, .int .i64 (x.1 : Nat)), (51, .int .i64 cs.length), (50, .slice bc cs.length cc), (21, .int .i64 (i : Nat)), (20, .int .i64 l.length), (19, .slice a l.length cap), (10, .map (some h.n)), (11, .slice x.2.2.1 x.2.1.length x.2.2.2.1), (1, .int .u16 st), (2, .int .i64 most), (3, .int .u32 (at32 T x.2.1.length : Nat)), (8, .slice none 0 0), (9, .bool false), (13, .pointer (some ⟨H.n, 0, none⟩))]) (fun _ => []) (fun x => x.2.2.2.2) (fun x => x.1 ≤ cs.length ∧ x.2.1 = all ++ rnum T all.length m.un sn (cs.take x.1) ∧ SMap x.2.2.2.2 h.n .u16 (nv nx) ∧ Sv x.2.2.2.2 33 6 x.2.2.1 x.2.1.length x.2.2.2.1 (pcs x.2.1) ∧ Own h1.n x.2.2.1 ∧ (∀ p ∈ x.2.1, Sv x.2.2.2.2 5 1 p.a p.z.length p.cap (p.z.map bv)) ∧ (∀ p ∈ cs, Sv x.2.2.2.2 5 1 p.a p.z.length p.cap (p.z.map bv)) ∧ Same h x.2.2.2.2 ∧ H2.n ≤ x.2.2.2.2.n ∧ x.2.2.2.2.get H.n = some (.cells [.int .u16 (m.sid : Nat), .bool m.un, .int .u32 (m.ppid : Nat), .slice m.a m.z.length m.cap, .int .i64 size] 72) ∧ Sv x.2.2.2.2 33 6 bc cs.length cc (pcs cs) ∧ ∀ i ∈ blk x.2.2.1, i ∉ blk bc) (fun x => cs.length - x.1) (0, all, b, c, H2) ⟨Nat.zero_le _, by simp [rnum], hM2, row2, hown, dv2, cdv, sm2, Nat.le_refl _, g23, crow, hbc⟩ ⟨rfl, rfl, rfl, rfl, rfl, rfl, rfl, rfl, rfl, rfl, rfl, rfl, rfl, rfl, trivial⟩ rfl rfl ?_
 clear hM2 row2 dv2 cdv sm2 g23 crow hbc hown
 rintro ⟨k, al2, b2, c2, h3⟩ ⟨hk, ha2, hM3, row3, own3, dv3, cdv3, sm3, hn3, g33, crow3, hbc⟩
 simp only at hk ha2 hM3 row3 own3 dv3 cdv3 sm3 hn3 g33 crow3 hbc ⊢
 rcases Nat.lt_or_ge k cs.length with k0 | k0
 case inr =>
  obtain rfl : k = cs.length := by omega
  rw [List.take_length] at ha2
  have hal3 : al2.length ≤ (i + 1) * 2000000 := by
   have := congrArg List.length ha2
   rw [List.length_append, rnum_len] at this
   omega
  have hSn := SentR.snoc hS h0 hs1 hcp (by omega) (by omega)
  rw [← htk, ← hsn, ← ha2] at hSn
  have hn4 : h1.n ≤ h3.n := by omega
  cases hun : m.un with
  | true =>
   rw [hun, if_pos rfl] at hSn
   (refine Go.run (g:=?_))
   exact Go.again (i + 1, nx, al2, b2, c2, h3) ⟨by simp only; omega, hSn, hal3, hM3, hnx, row3, own3, dv3, sm3, hn4⟩ (by simp only; omega) ⟨rfl, rfl, rfl, rfl, rfl, rfl, rfl, rfl, rfl, rfl, trivial⟩ rfl rfl
  | false =>
   rw [hun, if_neg (by decide)] at hSn
   have hMlt := hM3.lt
   have hh1 := hM3
   have holn := own3
   (refine Go.run (g:=?_))
   refine GoR.lookup rfl rfl rfl rfl rfl rfl hM3.imap ?_
   rw [al_nv, ← hsn]
   (refine Go.run (g:=?_))
   refine GoR.bin rfl rfl rfl rfl rfl rfl (add16n sn) ?_
   refine GoR.mapUpdateS (.inl rfl) rfl rfl rfl rfl rfl hM3 (.inr (Nat.le_refl _)) ?_
   intro h4 M4 k4 n4
   rw [aset_nv] at M4
   have sm4 := sm3.own k4 (fun j hj => by simp only [List.mem_singleton] at hj; omega)
   obtain ⟨es, ck, gM, -⟩ := hM3
   have row4 := row3.keeps k4 (fun j hj hm => by simp only [List.mem_singleton] at hm; subst hm; exact sv_out row3 gM (fun c e => by cases e) hj)
   have dv4 := fun p hp => (dv3 p hp).keeps k4 (fun j hj hm => by simp only [List.mem_singleton] at hm; subst hm; exact sv_out (dv3 p hp) gM (fun c e => by cases e) hj)
   (refine Go.run (g:=?_))
   exact Go.again (i + 1, _, al2, b2, c2, h4) ⟨by simp only; omega, hSn, hal3, M4, nput_lt hnx (nx16_lt _), row4, own3, dv4, sm4, by simp only; omega⟩ (by simp only; omega) ⟨rfl, rfl, rfl, rfl, rfl, rfl, rfl, rfl, rfl, rfl, trivial⟩ rfl rfl
 have c0 := pcs_get k0
 have hbe : k * 6 + 6 ≤ (pcs cs).length := by rw [pcs_len]; omega
 have hcd := cdv3 _ (List.getElem_mem k0)
 have ha3 : al2 ++ [rn1 (at32 T al2.length) m.un sn cs[k]] = all ++ rnum T all.length m.un sn (cs.take (k + 1)) := by
  have e1 : cs.take (k + 1) = cs.take k ++ [cs[k]] := by rw [List.take_add_one, List.getElem?_eq_getElem k0]; rfl
  rw [e1, rnum_snoc, ← List.append_assoc, ← ha2]
  congr 4
  have := congrArg List.length ha2
  rw [List.length_append, rnum_len] at this
  omega
 have hal2 : al2.length ≤ 200000000 := by
  have := congrArg List.length ha2
  rw [List.length_append, rnum_len, List.length_take] at this
  omega
 have hcp0 := hcp.each k k0
 generalize cs[k] = p at *
 simp only [pC] at c0
 have hol3 := row3.lt
 have hMlt := hM3.lt
 (refine Go.run (g:=?_))
 refine GoR.bin rfl rfl rfl rfl rfl rfl (add32p (at32 T al2.length)) ?_
 rw [nxt_at]
 refine GoR.name ?_
 intro h4 e4
 have k4 : Keeps [h3.n] (h3.push (.cells [.int .u32 0, .int .u8 0, .int .u16 0, .int .u16 0, .int .u32 0, .slice none 0 0] 33)) h4 := by subst e4; exact ((Keeps.rfl _ _).put (by simp) _).put (by simp) _
 have s4 : Same h3 h4 := by subst e4; exact (((Same.refl h3).push _).put (Nat.le_refl _) _).put (Nat.le_refl _) _
 have g4 : h4.get h3.n = some (.cells [.int .u32 (at32 T al2.length : Nat), .int .u8 (p.fl : Nat), .int .u16 (p.sid : Nat), .int .u16 (p.ssn : Nat), .int .u32 (p.ppid : Nat), .slice p.a p.z.length p.cap] 33) := by subst e4; exact hg_
 have n4 : h4.n = h3.n + 1 := by subst e4; rfl
 clear e4 k4
 have hM4 := hM3.same s4
 have row4 := row3.same s4
 have crow4 := crow3.same s4
 have dv4 := fun p hp => (dv3 p hp).same s4
 have cdv4 := fun p hp => (cdv3 p hp).same s4
 have sm4 := sm3.trans s4
 have g34 := s4.get g33
 have hcd4 := hcd.same s4
 clear hM3 row3 crow3 dv3 cdv3 sm3 g33 hcd c0 hbe
 (refine Go.run (g:=?_))
 obtain ⟨p', hp'⟩ : ∃ p', p' = rn1 (at32 T al2.length) m.un sn p := ⟨_, rfl⟩
 rw [← hp'] at ha3
 refine Go.join1 (α := AHeap) (fun _ => [(17, .pointer (some ⟨h3.n, 0, none⟩)), (52, .int .i64 (k : Nat)), (51, .int .i64 cs.length), (50, .slice bc cs.length cc), (21, .int .i64 (i : Nat)), (20, .int .i64 l.length), (19, .slice a l.length cap), (10, .map (some h.n)), (11, .slice b2 al2.length c2), (1, .int .u16 st), (2, .int .i64 most), (3, .int .u32 (at32 T (al2.length + 1) : Nat)), (8, .slice none 0 0), (9, .bool false), (13, .pointer (some ⟨H.n, 0, none⟩))]) (fun _ => []) (fun x => x) (fun x => Keeps [h3.n] h4 x ∧ x.get h3.n = some (.cells (pC p') 33)) ?_ ?_
 ·
  cases hun : m.un with
  | false =>
   (refine Go.run (g:=?_))
   refine GoR.lookup rfl rfl rfl rfl rfl rfl hM4.imap ?_
   rw [al_nv, ← hsn]
   (refine Go.run (g:=?_))
   refine Go.joined _ ⟨(Keeps.rfl _ _).put (by simp) _, ?_⟩ ⟨rfl, rfl, rfl, rfl, rfl, rfl, rfl, rfl, rfl, rfl, rfl, rfl, rfl, rfl, rfl, trivial⟩ rfl rfl
   rw [hp', hun]
   exact get_put_self g4
  | true =>
   (refine Go.run (g:=?_))
   refine Go.joined h4 ⟨Keeps.rfl _ _, ?_⟩ ⟨rfl, rfl, rfl, rfl, rfl, rfl, rfl, rfl, rfl, rfl, rfl, rfl, rfl, rfl, rfl, trivial⟩ rfl rfl
   rw [hp', hun]
   exact g4
 rintro h5 ⟨k5, g5⟩
 have n5 := k5.1
 have hnp : ∀ {x : Nat} {o : AObj}, h4.get x = some o → (∀ c, o ≠ .cells c 33) → x ∉ [h3.n] := fun {x o} hx ho hm => by
  simp only [List.mem_singleton] at hm
  subst hm
  rw [g4] at hx
  cases hx
  exact ho _ rfl
 have hnd : ∀ {a : Option Addr} {len cap : Nat} {cs : List Value}, Sv h4 5 1 a len cap cs → ∀ i ∈ blk a, i ∉ [h3.n] := fun d i hi hm => by
  simp only [List.mem_singleton] at hm
  subst hm
  exact sv_out d g4 (fun c e => by cases e) hi
 have hclt3 := crow4.lt
 have hM5 : SMap h5 h.n .u16 (nv nx) := hM4.keeps k5 (by simp; omega)
 have row5 := row4.keeps k5 (fun i hi hm => by simp only [List.mem_singleton] at hm; have := hol3 i hi; omega)
 have crow5 := crow4.keeps k5 (fun i hi hm => by simp only [List.mem_singleton] at hm; have := hclt i hi; omega)
 have dv5 := fun p hp => (dv4 p hp).keeps k5 (hnd (dv4 p hp))
 have cdv5 := fun p hp => (cdv4 p hp).keeps k5 (hnd (cdv4 p hp))
 have hcd5 := hcd4.keeps k5 (hnd hcd4)
 have g35 := k5.get g34 (hnp g34 (fun c e => by cases e))
 have sm5 := sm4.own k5 (fun j hj => by simp only [List.mem_singleton] at hj; omega)
 clear hM4 row4 crow4 dv4 cdv4 hcd4 g34 sm4 g4 k5 hnp hnd hclt3
 simp only [pC] at g5
 (refine Go.run (g:=?_))
 refine GoR.buildRo (c := pC p') rfl rfl rfl rfl rfl (by decide) (by rfl) (by rfl) ?_
 intro b6 h6 hb6 rb6 ob6 s6 n6
 have row6 := row5.same s6
 refine GoR.appendV rfl rfl rfl rfl rfl rfl row6 hb6 (own3.ok (by omega)) (by omega) (by omega) (by rfl) ?_
 intro b7 c7 h7 hs7 k7 o7
 have n7 := k7.1
 rw [← pcs_snoc] at hs7
 have M7 : SMap h7 h.n .u16 (nv nx) := by
  refine (hM5.same s6).keeps k7 ?_
  obtain ⟨es, ck, gM, -⟩ := hM5.same s6
  exact sv_out row6 gM (fun c e => by cases e)
 have g7 := k7.get (s6.get g35) (sv_out row6 (s6.get g35) (fun c e => by cases e))
 have crow7 := (crow5.same s6).keeps k7 (fun i hi hm => hbc i hm hi)
 have cdv7 := fun q hq => ((cdv5 q hq).same s6).keeps k7 (sv_sv ((cdv5 q hq).same s6) row6 (by decide))
 have dv7 : ∀ q ∈ al2 ++ [p'], Sv h7 5 1 q.a q.z.length q.cap (q.z.map bv) := fun q hq => by
  rcases List.mem_append.1 hq with hq | hq
  · exact ((dv5 q hq).same s6).keeps k7 (sv_sv ((dv5 q hq).same s6) row6 (by decide))
  ·
   rw [List.mem_singleton.1 hq, hp']
   exact (hcd5.same s6).keeps k7 (sv_sv (hcd5.same s6) row6 (by decide))
 have sm7 := (sm5.trans s6).own k7 (fun j hj => by have := own3 j hj; omega)
 have hlA : (al2 ++ [p']).length = al2.length + 1 := by simp
 (refine Go.run (g:=?_))
 refine Go.again (k + 1, al2 ++ [p'], b7, c7, h7) ⟨by simp only; omega, ha3, M7, by rw [hlA]; exact hs7, fun j hj => ?_, dv7, cdv7, sm7, by simp only; omega, g7, crow7, fun j hj => ?_⟩ (by simp only; omega) ⟨rfl, rfl, rfl, rfl, rfl, rfl, rfl, by rw [hlA]; rfl, rfl, rfl, by rw [hlA]; rfl, rfl, rfl, rfl, trivial⟩ rfl rfl
 ·
  rcases o7 j hj with y | y
  · exact own3 j y
  · omega
 ·
  rcases o7 j hj with y | y
  · exact hbc j y
  · exact fun hm => by have := hclt j hm; omega
end Go.Proofs.Ytccbmmnkiihkaaa
namespace Go.Proofs.Ytccbmmnkiihkaaa
set_option maxRecDepth 65000
theorem at32_inj {T i j : Nat} (hi : i < 4294967296) (hj : j < 4294967296) (h : at32 T i = at32 T j) : i = j := at_inj hi hj h
structure SetOk (T n : Nat) (acc : Nat → Bool) (k c : Nat) (ks : List Nat) : Prop where
 kn : k ≤ n
 c : c = at32 T (k + 4294967295)
 low : ∀ i, i < k → acc i = true
 no : acc k = false
 nd : ks.Nodup
 mem : ∀ x, x ∈ ks ↔ ∃ i, k < i ∧ i < n ∧ acc i = true ∧ x = at32 T i
section
variable {T n k c : Nat} {acc : Nat → Bool} {ks : List Nat}
theorem SetOk.start (T n : Nat) : SetOk T n (fun _ => false) 0 (at32 T 4294967295) [] := ⟨Nat.zero_le _, by rw [Nat.zero_add], fun i hi => absurd hi (Nat.not_lt_zero _), rfl, List.nodup_nil, fun x => ⟨(fun h => by cases h), (fun ⟨i, _, _, h, _⟩ => by cases h)⟩⟩
theorem c_at {T k i : Nat} (hi : i < 65000) (hk : k < 65000) : (at32 T i = at32 T (k + 4294967295) ↔ i + 1 = k) ∧ (bef32 (at32 T i) (at32 T (k + 4294967295)) = true ↔ i + 1 < k) ∧ (k ≤ i → spanN (at32 T (k + 4294967295)) (at32 T i) = i - k + 1) ∧ (at32 T i = next32 (at32 T (k + 4294967295)) ↔ i = k) := by
 unfold at32 spanN next32
 refine ⟨by omega, ?_, fun _ => by omega, by omega⟩
 unfold bef32 spanN
 simp only [Bool.and_eq_true, decide_eq_true_eq]
 omega
theorem SetOk.has (s : SetOk T n acc k c ks) (hn : n < 65000) {i : Nat} (hi : i < n) : hasN c ks (at32 T i) = acc i := by
 have hk := s.kn
 obtain ⟨e1, e2, -, -⟩ := c_at (T := T) (i := i) (k := k) (by omega) (by omega)
 have hm := s.mem (at32 T i)
 unfold hasN
 rw [s.c]
 cases ha : acc i with
 | true =>
  rcases Nat.lt_trichotomy i k with q | q | q
  ·
   rcases Nat.lt_or_ge (i + 1) k with p | p
   · rw [e2.2 p]; simp
   · rw [decide_eq_true (e1.2 (by omega))]; simp
  · subst q; rw [s.no] at ha; cases ha
  · rw [decide_eq_true (hm.2 ⟨i, q, hi, ha, rfl⟩)]; rfl
 | false =>
  have hge : ¬ i < k := fun h => by rw [s.low i h] at ha; cases ha
  have h1 : ¬ at32 T i ∈ ks := fun h => by
   obtain ⟨j, hj1, hj2, hj3, hj4⟩ := hm.1 h
   have := at32_inj (by omega) (by omega) hj4
   subst this
   rw [ha] at hj3; cases hj3
  have h2 : ¬ at32 T i = at32 T (k + 4294967295) := fun h => by have := e1.1 h; omega
  have h3 : bef32 (at32 T i) (at32 T (k + 4294967295)) = false := by
   cases hb : bef32 (at32 T i) (at32 T (k + 4294967295)) with
   | false => rfl
   | true => have := e2.1 hb; omega
  rw [decide_eq_false h1, decide_eq_false h2, h3]; rfl
theorem settle_ok : ∀ (m : Nat) {k c : Nat} {ks : List Nat}, n < 65000 → k ≤ n → c = at32 T (k + 4294967295) → (∀ i, i < k → acc i = true) → acc n = false → ks.Nodup → (∀ x, x ∈ ks ↔ ∃ i, k ≤ i ∧ i < n ∧ acc i = true ∧ x = at32 T i) → ks.length ≤ m → ∃ k', k ≤ k' ∧ SetOk T n acc k' (settleN m c ks).1 (settleN m c ks).2
 | m, k, c, ks, hn, hkn, hc, hlow, hacn, hnd, hmem, hlen => by
  have hnx : at32 T k = next32 c := by rw [hc]; exact (c_at (T := T) (i := k) (k := k) (by omega) (by omega)).2.2.2.2 rfl
  have stop : ¬ next32 c ∈ ks → SetOk T n acc k c ks := fun h => by
   have hk : acc k = false := by
    rcases Nat.lt_or_ge k n with q | q
    ·
     cases ha : acc k with
     | false => rfl
     | true => exact absurd ((hmem _).2 ⟨k, Nat.le_refl _, q, ha, hnx.symm⟩) h
    ·
     obtain rfl : k = n := by omega
     exact hacn
   refine ⟨hkn, hc, hlow, hk, hnd, fun x => ⟨fun hx => ?_, fun ⟨i, h1, h2, h3, h4⟩ => (hmem x).2 ⟨i, by omega, h2, h3, h4⟩⟩⟩
   obtain ⟨i, h1, h2, h3, h4⟩ := (hmem x).1 hx
   refine ⟨i, ?_, h2, h3, h4⟩
   rcases Nat.eq_or_lt_of_le h1 with e | e
   · subst e; rw [hk] at h3; cases h3
   · exact e
  cases m with
  | zero =>
   have : ks = [] := List.length_eq_zero_iff.1 (by omega)
   subst this
   exact ⟨k, Nat.le_refl _, stop List.not_mem_nil⟩
  | succ m =>
   by_cases h : next32 c ∈ ks
   ·
    rw [settleN_yes h]
    obtain ⟨i, h1, h2, h3, h4⟩ := (hmem _).1 h
    rw [← hnx] at h4
    have := at32_inj (by omega) (by omega) h4
    subst this
    obtain ⟨k', hk', ok⟩ := settle_ok m (k := k + 1) (c := next32 c) (ks := ks.erase (next32 c)) hn (by omega) (by rw [← hnx]; unfold at32; omega) (fun j hj => by
     rcases Nat.lt_or_ge j k with q | q
     · exact hlow j q
     ·
      obtain rfl : j = k := by omega
      exact h3) hacn (hnd.erase _) (fun x => by
     rw [hnd.mem_erase_iff, hmem x]
     constructor
     ·
      rintro ⟨hne, j, g1, g2, g3, g4⟩
      refine ⟨j, ?_, g2, g3, g4⟩
      rcases Nat.eq_or_lt_of_le g1 with e | e
      · subst e; exact absurd (g4.trans hnx) hne
      · exact e
     ·
      rintro ⟨j, g1, g2, g3, g4⟩
      refine ⟨fun e => ?_, j, by omega, g2, g3, g4⟩
      rw [g4, ← hnx] at e
      have := at32_inj (by omega) (by omega) e
      omega) (by have := List.length_erase_of_mem h; have := List.length_pos_of_mem h; omega)
    exact ⟨k', by omega, ok⟩
   ·
    rw [settleN_no h]
    exact ⟨k, Nat.le_refl _, stop h⟩
def acS (acc : Nat → Bool) (i : Nat) : Nat → Bool := fun j => decide (j = i) || acc j
theorem SetOk.add (s : SetOk T n acc k c ks) (hn : n < 65000) (hacn : acc n = false) {i : Nat} (hi : i < n) (ha : acc i = false) {ds : List Nat} : ∃ k' c' ks', addN c ks ds (at32 T i) = (0, c', ks', ds) ∧ SetOk T n (acS acc i) k' c' ks' ∧ k ≤ k' ∧ (i = k → k < k') ∧ (i ≠ k → k' = k) := by
 have hk := s.kn
 have hge : k ≤ i := Nat.le_of_not_lt fun h => by rw [s.low i h] at ha; cases ha
 have hh : ¬ hasN c ks (at32 T i) = true := by rw [s.has hn hi, ha]; decide
 have hsp : ¬ 65535 < spanN c (at32 T i) := by
  rw [s.c, (c_at (T := T) (i := i) (k := k) (by omega) (by omega)).2.2.1 hge]; omega
 have hnotin : ¬ at32 T i ∈ ks := fun h => by
  obtain ⟨j, h1, h2, h3, h4⟩ := (s.mem _).1 h
  have := at32_inj (by omega) (by omega) h4
  subst this
  rw [ha] at h3; cases h3
 obtain ⟨k', hk', ok⟩ := settle_ok (T := T) (n := n) (acc := acS acc i) (ks.length + 1) (k := k) (c := c) (ks := ks ++ [at32 T i]) hn hk s.c (fun j hj => by unfold acS; rw [s.low j hj, Bool.or_true]) (by unfold acS; rw [hacn, decide_eq_false (show ¬ n = i by omega)]; rfl) (by
  rw [List.nodup_append]
  exact ⟨s.nd, by simp, fun a h1 b h2 e => by rw [List.mem_singleton] at h2; subst h2; subst e; exact hnotin h1⟩) (fun x => by
  rw [List.mem_append, List.mem_singleton, s.mem x]
  unfold acS
  constructor
  ·
   rintro (⟨j, h1, h2, h3, h4⟩ | h)
   · exact ⟨j, by omega, h2, by rw [h3, Bool.or_true], h4⟩
   · exact ⟨i, hge, hi, by simp, h⟩
  ·
   rintro ⟨j, h1, h2, h3, h4⟩
   by_cases e : j = i
   · subst e; exact .inr h4
   ·
    rw [decide_eq_false e, Bool.false_or] at h3
    refine .inl ⟨j, ?_, h2, h3, h4⟩
    rcases Nat.eq_or_lt_of_le h1 with q | q
    · subst q; rw [s.no] at h3; cases h3
    · exact q) (by simp)
 refine ⟨k', _, _, addN_new ds hh hsp rfl, ok, hk', fun e => ?_, fun e => ?_⟩
 ·
  subst e
  rcases Nat.eq_or_lt_of_le hk' with q | q
  ·
   have := ok.no
   rw [← q] at this
   unfold acS at this
   rw [decide_eq_true rfl] at this
   cases this
  · exact q
 ·
  have hkk : acS acc i k = false := by unfold acS; rw [decide_eq_false (fun q => e q.symm), s.no]; rfl
  rcases Nat.eq_or_lt_of_le hk' with q | q
  · exact q.symm
  ·
   have := ok.low k q
   rw [hkk] at this; cases this
end
def hs (w : Nat → Nat) (f : Nat → Bool) : Nat → Nat
 | 0 => 0
 | n + 1 => hs w f n + if f n = true then w n else 0
section
variable {w : Nat → Nat} {f g : Nat → Bool}
theorem hs_le : ∀ {n : Nat}, (∀ i, i < n → f i = true → g i = true) → hs w f n ≤ hs w g n
 | 0, _ => Nat.le_refl _
 | n + 1, h => by
  have ih := hs_le (n := n) fun i hi => h i (by omega)
  have h1 := h n (by omega)
  unfold hs
  by_cases q : f n = true
  · rw [if_pos q, if_pos (h1 q)]; omega
  · rw [if_neg q]; omega
theorem hs_congr : ∀ {n : Nat}, (∀ i, i < n → f i = g i) → hs w f n = hs w g n
 | 0, _ => rfl
 | n + 1, h => by
  unfold hs
  rw [hs_congr (n := n) fun i hi => h i (by omega), h n (by omega)]
theorem hs_or : ∀ {n : Nat}, (∀ i, i < n → f i = true → g i = false) → hs w (fun i => f i || g i) n = hs w f n + hs w g n
 | 0, _ => rfl
 | n + 1, h => by
  have ih := hs_or (n := n) fun i hi => h i (by omega)
  have h1 := h n (by omega)
  unfold hs
  rw [ih]
  cases hf : f n with
  | true => rw [h1 hf]; simp; omega
  | false => cases g n <;> simp <;> omega
theorem hs_zero : ∀ {n : Nat}, (∀ i, i < n → f i = false) → hs w f n = 0
 | 0, _ => rfl
 | n + 1, h => by
  unfold hs
  rw [hs_zero fun i hi => h i (by omega), h n (by omega)]; rfl
theorem hs_one : ∀ {n i : Nat}, i < n → hs w (fun j => decide (j = i)) n = w i
 | n + 1, i, h => by
  unfold hs
  by_cases e : n = i
  ·
   subst e
   rw [hs_zero fun j hj => decide_eq_false (by omega), decide_eq_true rfl]; simp
  · rw [hs_one (by omega), decide_eq_false e]; simp
theorem hs_add {n i : Nat} (hi : i < n) (ha : f i = false) : hs w (acS f i) n = hs w f n + w i := by
 have := hs_or (w := w) (n := n) (f := fun j => decide (j = i)) (g := f) fun j hj h => by
  have := of_decide_eq_true h
  subst this; exact ha
 rw [hs_one hi] at this
 unfold acS
 omega
end
end Go.Proofs.Ytccbmmnkiihkaaa
namespace Go.Proofs.Ytccbmmnkiihkaaa
set_option maxRecDepth 100000
def pAt (l : List PV) (i : Nat) : PV := l.getD i ⟨0, 0, 0, 0, 0, none, 0, []⟩
def mAt (l : List (IM × Int)) (i : Nat) : IM := (l.getD i (⟨0, false, 0, none, 0, []⟩, 0)).1
theorem pAt_left {l r : List PV} {i : Nat} (h : i < l.length) : pAt (l ++ r) i = pAt l i := by
 unfold pAt
 rw [List.getD_eq_getElem?_getD, List.getD_eq_getElem?_getD, List.getElem?_append_left h]
theorem pAt_right {l r : List PV} {i : Nat} (h : l.length ≤ i) : pAt (l ++ r) i = pAt r (i - l.length) := by
 unfold pAt
 rw [List.getD_eq_getElem?_getD, List.getD_eq_getElem?_getD, List.getElem?_append_right h]
theorem mAt_left {l r : List (IM × Int)} {i : Nat} (h : i < l.length) : mAt (l ++ r) i = mAt l i := by
 unfold mAt
 rw [List.getD_eq_getElem?_getD, List.getD_eq_getElem?_getD, List.getElem?_append_left h]
theorem mAt_last (l : List (IM × Int)) (x : IM × Int) : mAt (l ++ [x]) l.length = x.1 := by
 unfold mAt
 rw [List.getD_eq_getElem?_getD, List.getElem?_append_right (Nat.le_refl _), Nat.sub_self]; rfl
theorem pAt_get {l : List PV} {i : Nat} (h : i < l.length) : pAt l i = l[i] := by
 unfold pAt
 rw [List.getD_eq_getElem?_getD, List.getElem?_eq_getElem h]; rfl
theorem mAt_get {l : List (IM × Int)} {i : Nat} (h : i < l.length) : mAt l i = l[i].1 := by
 unfold mAt
 rw [List.getD_eq_getElem?_getD, List.getElem?_eq_getElem h]; rfl
structure Snd (n L : Nat) (P : Nat → PV) (M : Nat → IM) (ow st cn rk : Nat → Nat) (T S : Nat) (most : Int) : Prop where
 n60 : n ≤ 60
 L60 : L ≤ n
 ow_lt : ∀ i, i < n → ow i < L
 cnp : ∀ g, g < L → 0 < cn g ∧ st g + cn g ≤ n
 seg : ∀ g i, g < L → i < n → (ow i = g ↔ st g ≤ i ∧ i < st g + cn g)
 ord : ∀ g g', g < g' → g' < L → st g + cn g ≤ st g'
 pt : ∀ i, i < n → (P i).t = at32 T i
 psid : ∀ i, i < n → (P i).sid = (M (ow i)).sid
 pssn : ∀ i, i < n → (P i).ssn = if (M (ow i)).un = true then 0 else rk (ow i)
 pppid : ∀ i, i < n → (P i).ppid = (M (ow i)).ppid
 pu : ∀ i, i < n → bitB (P i).fl 4 = (M (ow i)).un
 pb : ∀ i, i < n → bitB (P i).fl 2 = decide (i = st (ow i))
 pe : ∀ i, i < n → bitB (P i).fl 1 = decide (i = st (ow i) + cn (ow i) - 1)
 pfl : ∀ i, i < n → (P i).fl < 256
 pz : ∀ i, i < n → 0 < (P i).z.length
 data : ∀ g, g < L → (List.range (cn g)).flatMap (fun j => (P (st g + j)).z) = (M g).z
 most : ∀ g, g < L → ((M g).z.length : Int) ≤ most
 sid : ∀ g, g < L → (M g).sid < S
 rk_lt : ∀ g g', g < g' → g' < L → (M g).un = false → (M g').un = false → (M g).sid = (M g').sid → rk g < rk g'
 rk_dn : ∀ g r, g < L → (M g).un = false → r < rk g → ∃ g', g' < g ∧ (M g').un = false ∧ (M g').sid = (M g).sid ∧ rk g' = r
structure Nxt (L : Nat) (M : Nat → IM) (rk : Nat → Nat) (nx : List (Nat × Nat)) : Prop where
 le : ∀ s, nget nx s ≤ L
 lt : ∀ g, g < L → (M g).un = false → rk g < nget nx (M g).sid
 sur : ∀ s r, r < nget nx s → ∃ g, g < L ∧ (M g).un = false ∧ (M g).sid = s ∧ rk g = r
theorem flC_bits (un : Bool) (n j : Nat) : bitB (flC un n j) 4 = un ∧ bitB (flC un n j) 2 = decide (j = 0) ∧ bitB (flC un n j) 1 = decide (j = n - 1) ∧ flC un n j < 256 := by
 unfold flC fl0
 by_cases h : j = n - 1
 ·
  rw [if_pos h, decide_eq_true h]
  by_cases h2 : j = 0
  · rw [if_pos h2, decide_eq_true h2]; cases un <;> decide
  · rw [if_neg h2, decide_eq_false h2]; cases un <;> decide
 ·
  rw [if_neg h, decide_eq_false h]
  by_cases h2 : j = 0
  · rw [if_pos h2, decide_eq_true h2]; cases un <;> decide
  · rw [if_neg h2, decide_eq_false h2]; cases un <;> decide
theorem chunks_take (z : List UInt8) (s : Nat) : ∀ K, (List.range K).flatMap (chunkZ z s) = z.take (K * s)
 | 0 => by simp
 | K + 1 => by
  rw [List.range_succ, List.flatMap_append, chunks_take z s K, Nat.succ_mul, List.take_add]
  simp [chunkZ]
theorem nget_put (l : List (Nat × Nat)) (k v s : Nat) : nget (nput l k v) s = if s = k then v else nget l s := by
 induction l with
 | nil =>
  unfold nput nget
  by_cases h : s = k
  · rw [if_pos h, if_pos h.symm]
  · rw [if_neg h, if_neg (fun e => h e.symm)]; rfl
 | cons p l ih =>
  unfold nput
  by_cases h : p.1 = k
  ·
   rw [if_pos h]
   unfold nget
   by_cases h2 : s = k
   · rw [if_pos h2, if_pos h2.symm]
   · rw [if_neg h2, if_neg (fun e => h2 e.symm), if_neg (fun e => h2 (by rw [← e, h]))]
  ·
   rw [if_neg h]
   unfold nget
   by_cases h2 : p.1 = s
   · rw [if_pos h2, if_pos h2, if_neg (fun e => h (by rw [h2, e]))]
   · rw [if_neg h2, if_neg h2, ih]
theorem snd_of {st : Nat} {most : Int} {T : Nat} {l : List (IM × Int)} {nx : List (Nat × Nat)} {all : List PV} (h : SentR st most T l nx all) : all.length ≤ 60 → ∃ ow sg cn rk, Snd all.length l.length (pAt all) (mAt l) ow sg cn rk T st most ∧ Nxt l.length (mAt l) rk nx := by
 induction h with
 | nil => exact fun _ => ⟨fun _ => 0, fun _ => 0, fun _ => 0, fun _ => 0, ⟨Nat.zero_le _, Nat.le_refl _, by simp, by simp, by simp, by simp, by simp, by simp, by simp, by simp, by simp, by simp, by simp, by simp, by simp, by simp, by simp, by simp, by simp, by simp⟩, ⟨fun s => Nat.le_refl _, by simp, by simp [nget]⟩⟩
 | @snoc l nx all cs m size h h0 h1 c h2 h3 ih =>
  intro hl
  have hrl := rnum_len T m.un (nget nx m.sid) all.length cs
  rw [List.length_append, hrl] at hl
  obtain ⟨ow, sg, cn, rk, X, N⟩ := ih (by omega)
  obtain ⟨c0, -⟩ := c.len h0 (by omega)
  have hs0 : 0 < min size.toNat m.z.length := by omega
  generalize min size.toNat m.z.length = s at *
  have hP : ∀ i, (h1 : all.length ≤ i) → (h2 : i < all.length + cs.length) → pAt (all ++ rnum T all.length m.un (nget nx m.sid) cs) i = rn1 (at32 T i) m.un (nget nx m.sid) (cs[i - all.length]'(by omega)) := fun i h1 h2 => by
   rw [pAt_right h1, pAt_get (by rw [hrl]; omega), rnum_get T m.un (nget nx m.sid) all.length cs (i - all.length) (by omega)]
   congr 2
   omega
  have hPo : ∀ i, i < all.length → pAt (all ++ rnum T all.length m.un (nget nx m.sid) cs) i = pAt all i := fun i h => pAt_left h
  have hM : mAt (l ++ [(m, size)]) l.length = m := mAt_last l _
  have hMo : ∀ g, g < l.length → mAt (l ++ [(m, size)]) g = mAt l g := fun g h => mAt_left h
  generalize pAt (all ++ rnum T all.length m.un (nget nx m.sid) cs) = P' at *
  generalize mAt (l ++ [(m, size)]) = M' at *
  rw [List.length_append, hrl, List.length_append, List.length_singleton]
  have hnl := N.le m.sid
  have hL60 := X.L60
  have hnx : nx16 (nget nx m.sid) = nget nx m.sid + 1 := by unfold nx16; omega
  obtain ⟨ow', how⟩ : ∃ ow' : Nat → Nat, ow' = fun i => if i < all.length then ow i else l.length := ⟨_, rfl⟩
  obtain ⟨sg', hsg⟩ : ∃ sg' : Nat → Nat, sg' = fun g => if g < l.length then sg g else all.length := ⟨_, rfl⟩
  obtain ⟨cn', hcn⟩ : ∃ cn' : Nat → Nat, cn' = fun g => if g < l.length then cn g else cs.length := ⟨_, rfl⟩
  obtain ⟨rk', hrk⟩ : ∃ rk' : Nat → Nat, rk' = fun g => if g < l.length then rk g else nget nx m.sid := ⟨_, rfl⟩
  have o1 : ∀ i, i < all.length → ow' i = ow i := fun i h => by rw [how]; exact if_pos h
  have o2 : ∀ i, ¬ i < all.length → ow' i = l.length := fun i h => by rw [how]; exact if_neg h
  have s1 : ∀ g, g < l.length → sg' g = sg g := fun i h => by rw [hsg]; exact if_pos h
  have s2 : sg' l.length = all.length := by rw [hsg]; exact if_neg (Nat.lt_irrefl _)
  have n1 : ∀ g, g < l.length → cn' g = cn g := fun i h => by rw [hcn]; exact if_pos h
  have n2 : cn' l.length = cs.length := by rw [hcn]; exact if_neg (Nat.lt_irrefl _)
  have r1 : ∀ g, g < l.length → rk' g = rk g := fun i h => by rw [hrk]; exact if_pos h
  have r2 : rk' l.length = nget nx m.sid := by rw [hrk]; exact if_neg (Nat.lt_irrefl _)
  clear how hsg hcn hrk
  have pc : ∀ {Q : Nat → Prop}, (∀ i, i < all.length → Q i) → (∀ i, all.length ≤ i → i < all.length + cs.length → Q i) → ∀ i, i < all.length + cs.length → Q i := fun a b i hi => by
   rcases Nat.lt_or_ge i all.length with q | q
   · exact a i q
   · exact b i q hi
  have mc : ∀ {Q : Nat → Prop}, (∀ g, g < l.length → Q g) → Q l.length → ∀ g, g < l.length + 1 → Q g := fun a b g hg => by
   rcases Nat.lt_or_ge g l.length with q | q
   · exact a g q
   ·
    obtain rfl : g = l.length := by omega
    exact b
  have oM : ∀ i, i < all.length → M' (ow' i) = mAt l (ow i) := fun i h => by rw [o1 i h, hMo _ (X.ow_lt i h)]
  have oN : ∀ i, all.length ≤ i → M' (ow' i) = m := fun i h => by rw [o2 i (by omega), hM]
  have ce : ∀ i, (h0 : all.length ≤ i) → (hi : i < all.length + cs.length) → (cs[i - all.length]'(by omega)).t = 0 ∧ (cs[i - all.length]'(by omega)).ssn = 0 ∧ (cs[i - all.length]'(by omega)).sid = m.sid ∧ (cs[i - all.length]'(by omega)).ppid = m.ppid ∧ (cs[i - all.length]'(by omega)).z = chunkZ m.z s (i - all.length) ∧ (cs[i - all.length]'(by omega)).fl = flC m.un cs.length (i - all.length) := fun i h hi => c.each (i - all.length) (by omega)
  refine ⟨ow', sg', cn', rk', ⟨hl, by omega, ?_, ?_, ?_, ?_, ?_, ?_, ?_, ?_, ?_, ?_, ?_, ?_, ?_, ?_, ?_, ?_, ?_, ?_⟩, ?_⟩
  ·
   refine pc (fun i h => ?_) (fun i h h' => ?_)
   · rw [o1 i h]; have := X.ow_lt i h; omega
   · rw [o2 i (by omega)]; omega
  ·
   refine mc (fun g h => ?_) ?_
   · rw [s1 g h, n1 g h]; have := X.cnp g h; omega
   · rw [s2, n2]; omega
  ·
   intro g i hg hi
   rcases Nat.lt_or_ge g l.length with q | q
   ·
    have hc := X.cnp g q
    rw [s1 g q, n1 g q]
    rcases Nat.lt_or_ge i all.length with p | p
    · rw [o1 i p]; exact X.seg g i q p
    · rw [o2 i (by omega)]; omega
   ·
    obtain rfl : g = l.length := by omega
    rw [s2, n2]
    rcases Nat.lt_or_ge i all.length with p | p
    · rw [o1 i p]; have := X.ow_lt i p; omega
    · rw [o2 i (by omega)]; omega
  ·
   intro g g' hg hg'
   rcases Nat.lt_or_ge g' l.length with q | q
   · rw [s1 g (by omega), n1 g (by omega), s1 g' q]; exact X.ord g g' hg q
   ·
    obtain rfl : g' = l.length := by omega
    rw [s1 g hg, n1 g hg, s2]; exact (X.cnp g hg).2
  · refine pc (fun i h => by rw [hPo i h]; exact X.pt i h) (fun i h h' => by rw [hP i h h']; rfl)
  · refine pc (fun i h => by rw [hPo i h, oM i h]; exact X.psid i h) (fun i h h' => by rw [hP i h h', oN i h]; exact (ce i h h').2.2.1)
  ·
   refine pc (fun i h => by rw [hPo i h, oM i h, o1 i h, r1 _ (X.ow_lt i h)]; exact X.pssn i h) (fun i h h' => ?_)
   rw [hP i h h', oN i h, o2 i (by omega), r2]
   show (if m.un = true then _ else _) = _
   rw [(ce i h h').2.1]
  · refine pc (fun i h => by rw [hPo i h, oM i h]; exact X.pppid i h) (fun i h h' => by rw [hP i h h', oN i h]; exact (ce i h h').2.2.2.1)
  ·
   refine pc (fun i h => by rw [hPo i h, oM i h]; exact X.pu i h) (fun i h h' => ?_)
   rw [hP i h h', oN i h]
   show bitB (cs[i - all.length]'(by omega)).fl 4 = _
   rw [(ce i h h').2.2.2.2.2]
   exact (flC_bits _ _ _).1
  ·
   refine pc (fun i h => by rw [hPo i h, o1 i h, s1 _ (X.ow_lt i h)]; exact X.pb i h) (fun i h h' => ?_)
   rw [hP i h h', o2 i (by omega), s2]
   show bitB (cs[i - all.length]'(by omega)).fl 2 = _
   rw [(ce i h h').2.2.2.2.2, (flC_bits _ _ _).2.1]
   exact decide_eq_decide.2 (by omega)
  ·
   refine pc (fun i h => by rw [hPo i h, o1 i h, s1 _ (X.ow_lt i h), n1 _ (X.ow_lt i h)]; exact X.pe i h) (fun i h h' => ?_)
   rw [hP i h h', o2 i (by omega), s2, n2]
   show bitB (cs[i - all.length]'(by omega)).fl 1 = _
   rw [(ce i h h').2.2.2.2.2, (flC_bits _ _ _).2.2.1]
   exact decide_eq_decide.2 (by omega)
  ·
   refine pc (fun i h => by rw [hPo i h]; exact X.pfl i h) (fun i h h' => ?_)
   rw [hP i h h']
   show (cs[i - all.length]'(by omega)).fl < 256
   rw [(ce i h h').2.2.2.2.2]
   exact (flC_bits _ _ _).2.2.2
  ·
   refine pc (fun i h => by rw [hPo i h]; exact X.pz i h) (fun i h h' => ?_)
   rw [hP i h h']
   show 0 < (cs[i - all.length]'(by omega)).z.length
   rw [(ce i h h').2.2.2.2.1]
   unfold chunkZ
   rw [List.length_take, List.length_drop]
   have := c.K2 (i - all.length) (by omega)
   omega
  ·
   refine mc (fun g h => ?_) ?_
   ·
    rw [s1 g h, n1 g h, hMo g h, ← X.data g h]
    have hc := X.cnp g h
    have e : ∀ j ∈ List.range (cn g), (P' (sg g + j)).z = (pAt all (sg g + j)).z := fun j hj => by rw [hPo _ (by have := List.mem_range.1 hj; omega)]
    rw [List.flatMap_def, List.flatMap_def, List.map_congr_left e]
   ·
    rw [s2, n2, hM]
    have e : ∀ j ∈ List.range cs.length, (P' (all.length + j)).z = chunkZ m.z s j := fun j hj => by
     have hj' := List.mem_range.1 hj
     rw [hP (all.length + j) (by omega) (by omega)]
     show (cs[all.length + j - all.length]'(by omega)).z = _
     rw [(ce (all.length + j) (by omega) (by omega)).2.2.2.2.1, Nat.add_sub_cancel_left]
    rw [List.flatMap_def, List.map_congr_left e, ← List.flatMap_def, chunks_take, List.take_of_length_le c.K1]
  · exact mc (fun g h => by rw [hMo g h]; exact X.most g h) (by rw [hM]; exact h2)
  · exact mc (fun g h => by rw [hMo g h]; exact X.sid g h) (by rw [hM]; exact h3)
  ·
   intro g g' hg hg' u u' e
   rcases Nat.lt_or_ge g' l.length with q | q
   ·
    rw [hMo g (by omega)] at u e
    rw [hMo g' q] at u' e
    rw [r1 g (by omega), r1 g' q]
    exact X.rk_lt g g' hg q u u' e
   ·
    obtain rfl : g' = l.length := by omega
    rw [hMo g hg] at u e
    rw [hM] at u' e
    rw [r1 g hg, r2, ← e]
    exact N.lt g hg u
  ·
   intro g r hg u hr
   rcases Nat.lt_or_ge g l.length with q | q
   ·
    rw [hMo g q] at u ⊢
    rw [r1 g q] at hr
    obtain ⟨g', a1, a2, a3, a4⟩ := X.rk_dn g r q u hr
    exact ⟨g', a1, by rw [hMo g' (by omega)]; exact a2, by rw [hMo g' (by omega)]; exact a3, by rw [r1 g' (by omega)]; exact a4⟩
   ·
    obtain rfl : g = l.length := by omega
    rw [r2] at hr
    rw [hM]
    obtain ⟨g', a1, a2, a3, a4⟩ := N.sur m.sid r hr
    exact ⟨g', a1, by rw [hMo g' a1]; exact a2, by rw [hMo g' a1]; exact a3, by rw [r1 g' a1]; exact a4⟩
  ·
   refine ⟨fun s => ?_, mc (fun g h => ?_) ?_, fun s r hr => ?_⟩
   ·
    have := N.le s
    cases hu : m.un with
    | true => simp only [if_true]; omega
    | false =>
     simp only [Bool.false_eq_true, if_false]
     rw [nget_put, hnx]
     split
     · omega
     · omega
   ·
    rw [hMo g h, r1 g h]
    intro u
    have := N.lt g h u
    cases hu : m.un with
    | true => simpa only [if_true] using this
    | false =>
     simp only [Bool.false_eq_true, if_false]
     rw [nget_put, hnx]
     split
     · rename_i e; rw [e] at this; omega
     · exact this
   ·
    rw [hM, r2]
    intro u
    rw [u]
    simp only [Bool.false_eq_true, if_false]
    rw [nget_put, if_pos rfl, hnx]
    omega
   ·
    have old : r < nget nx s → ∃ g, g < l.length + 1 ∧ (M' g).un = false ∧ (M' g).sid = s ∧ rk' g = r := fun hr => by
     obtain ⟨g, a1, a2, a3, a4⟩ := N.sur s r hr
     exact ⟨g, by omega, by rw [hMo g a1]; exact a2, by rw [hMo g a1]; exact a3, by rw [r1 g a1]; exact a4⟩
    cases hu : m.un with
    | true => rw [hu] at hr; exact old (by simpa only [if_true] using hr)
    | false =>
     rw [hu] at hr
     simp only [Bool.false_eq_true, if_false] at hr
     rw [nget_put, hnx] at hr
     by_cases e : s = m.sid
     ·
      rw [if_pos e] at hr
      rcases Nat.lt_or_ge r (nget nx s) with q | q
      · exact old q
      · refine ⟨l.length, by omega, by rw [hM]; exact hu, by rw [hM, e], by rw [r2, ← e]; rw [e] at q ⊢; omega⟩
     · rw [if_neg e] at hr; exact old hr
end Go.Proofs.Ytccbmmnkiihkaaa
namespace Go.Proofs.Ytccbmmnkiihkaaa
set_option maxRecDepth 100000
def cpP (q p : PV) : Prop := ∃ a c, q = { p with a := a, cap := c }
theorem pf_left : ∀ {l r : List PV} {t : Nat} {q : PV}, pf l t = some q → pf (l ++ r) t = some q
 | x :: l, r, t, q, h => by
  unfold pf at h
  show (if x.t = t then some x else pf (l ++ r) t) = some q
  by_cases e : x.t = t
  · rw [if_pos e] at h ⊢; exact h
  · rw [if_neg e] at h ⊢; exact pf_left h
theorem pf_of_mem : ∀ {l : List PV} {q : PV}, (l.map (·.t)).Nodup → q ∈ l → pf l q.t = some q
 | x :: l, q, hn, h => by
  rw [List.map_cons, List.nodup_cons] at hn
  show (if x.t = q.t then some x else pf l q.t) = some q
  rcases List.mem_cons.1 h with rfl | h
  · rw [if_pos rfl]
  ·
   rw [if_neg (fun e => hn.1 (by rw [e]; exact List.mem_map.2 ⟨q, h, rfl⟩))]
   exact pf_of_mem hn.2 h
theorem pdel_nd : ∀ {l : List PV} {t : Nat}, (l.map (·.t)).Nodup → ((pdel l t).map (·.t)).Nodup ∧ ∀ q ∈ pdel l t, q.t ≠ t
 | [], t, _ => ⟨List.nodup_nil, fun q h => by cases h⟩
 | x :: l, t, hn => by
  rw [List.map_cons, List.nodup_cons] at hn
  unfold pdel
  by_cases e : x.t = t
  ·
   rw [if_pos e]
   exact ⟨hn.2, fun q hq e2 => hn.1 (by rw [e, ← e2]; exact List.mem_map.2 ⟨q, hq, rfl⟩)⟩
  ·
   rw [if_neg e]
   obtain ⟨h1, h2⟩ := pdel_nd (t := t) hn.2
   refine ⟨?_, fun q hq => ?_⟩
   ·
    rw [List.map_cons, List.nodup_cons]
    refine ⟨fun hm => ?_, h1⟩
    obtain ⟨q, hq, eq⟩ := List.mem_map.1 hm
    exact hn.1 (by rw [← eq]; exact List.mem_map.2 ⟨q, pdel_sub hq, rfl⟩)
   ·
    rcases List.mem_cons.1 hq with rfl | hq
    · exact e
    · exact h2 q hq
theorem gatS_nd {L : List PV} (D : List UInt8) (t : Nat) (hn : (L.map (·.t)).Nodup) : ∀ i, ((gatS L D t i).2.map (·.t)).Nodup ∧ ∀ q ∈ (gatS L D t i).2, q ∈ L ∧ ∀ j, j < i → q.t ≠ at32 t j
 | 0 => ⟨hn, fun q hq => ⟨hq, fun j hj => absurd hj (Nat.not_lt_zero _)⟩⟩
 | i + 1 => by
  obtain ⟨h1, h2⟩ := gatS_nd D t hn i
  rw [gatS_succ]
  obtain ⟨h3, h4⟩ := pdel_nd (t := at32 t i) h1
  refine ⟨h3, fun q hq => ?_⟩
  obtain ⟨h5, h6⟩ := h2 q (pdel_sub hq)
  refine ⟨h5, fun j hj => ?_⟩
  rcases Nat.eq_or_lt_of_le (Nat.le_of_lt_succ hj) with e | e
  · subst e; exact h4 q hq
  · exact h6 j e
theorem at_at (T a j : Nat) : at32 (at32 T a) j = at32 T (a + j) := by unfold at32; omega
def dn (n : Nat) (ow : Nat → Nat) (acc : Nat → Bool) (g : Nat) : Prop := ∀ i, i < n → ow i = g → acc i = true
structure KeptOk (n : Nat) (P : Nat → PV) (ow : Nat → Nat) (T : Nat) (acc : Nat → Bool) (kept : List PV) : Prop where
 k1 : ∀ i, i < n → acc i = true → ¬ dn n ow acc (ow i) → ∃ q, pf kept (at32 T i) = some q ∧ cpP q (P i)
 k2 : ∀ q ∈ kept, ∃ i, i < n ∧ acc i = true ∧ ¬ dn n ow acc (ow i) ∧ q.t = at32 T i
 nd : (kept.map (·.t)).Nodup
section
variable {n L : Nat} {P : Nat → PV} {M : Nat → IM} {ow st cn rk : Nat → Nat} {T S : Nat} {most : Int} {acc : Nat → Bool} {kept : List PV}
theorem KeptOk.len (K : KeptOk n P ow T acc kept) : kept.length ≤ n := by
 have := nodup_le (l := kept.map (·.t)) (k := (List.range n).map (at32 T)) K.nd fun x hx => by
  obtain ⟨q, hq, rfl⟩ := List.mem_map.1 hx
  obtain ⟨i, h1, -, -, h4⟩ := K.k2 q hq
  exact List.mem_map.2 ⟨i, List.mem_range.2 h1, h4.symm⟩
 simpa using this
theorem dn_acS {i0 g : Nat} (h : g ≠ ow i0) : dn n ow (acS acc i0) g ↔ dn n ow acc g := by
 constructor
 ·
  intro d i hi ho
  have := d i hi ho
  unfold acS at this
  rw [decide_eq_false (show ¬ i = i0 from fun e => h (by rw [← ho, e])), Bool.false_or] at this
  exact this
 ·
  intro d i hi ho
  unfold acS
  rw [d i hi ho, Bool.or_true]
theorem put_sent (X : Snd n L P M ow st cn rk T S most) (K : KeptOk n P ow T acc kept) {i0 : Nat} (hi0 : i0 < n) (ha : acc i0 = false) {p : PV} (hp : cpP p (P i0)) :
  (¬ dn n ow (acS acc i0) (ow i0) → putN kept p = (kept ++ [p], none) ∧ KeptOk n P ow T (acS acc i0) (kept ++ [p])) ∧
  (dn n ow (acS acc i0) (ow i0) → ∃ kept', putN kept p = (kept', some ((M (ow i0)).sid, (M (ow i0)).un, (M (ow i0)).ppid, (M (ow i0)).z)) ∧ KeptOk n P ow T (acS acc i0) kept') := by
 have hn60 := X.n60
 have hkl := K.len
 have hpt : p.t = at32 T i0 := by obtain ⟨a, c, rfl⟩ := hp; exact X.pt i0 hi0
 have hp32 : p.t < 4294967296 := by rw [hpt]; exact at32_lt _ _
 have hac : ∀ i, acS acc i0 i = true ↔ i = i0 ∨ acc i = true := fun i => by unfold acS; simp
 have hnd0 : ¬ dn n ow acc (ow i0) := fun d => by rw [d i0 hi0 rfl] at ha; cases ha
 have h0 : pf kept p.t = none := by
  cases h : pf kept p.t with
  | none => rfl
  | some q =>
   obtain ⟨hq, ht⟩ := pf_mem h
   obtain ⟨i, h1, h2, h3, h4⟩ := K.k2 q hq
   have := at32_inj (by omega) (by omega) ((h4.symm.trans ht).trans hpt)
   subst this
   rw [ha] at h2; cases h2
 have ndL : ((kept ++ [p]).map (·.t)).Nodup := by
  rw [List.map_append, List.nodup_append]
  refine ⟨K.nd, by simp, fun a h1 b h2 e => ?_⟩
  simp only [List.map_cons, List.map_nil, List.mem_singleton] at h2
  obtain ⟨q, hq, rfl⟩ := List.mem_map.1 h1
  have := pf_of_mem K.nd hq
  rw [e, h2, h0] at this; cases this
 have L1 : ∀ i, i < n → acS acc i0 i = true → ¬ dn n ow acc (ow i) → ∃ q, pf (kept ++ [p]) (at32 T i) = some q ∧ cpP q (P i) := fun i hi h1 h2 => by
  by_cases e : i = i0
  ·
   subst e
   exact ⟨p, by rw [← hpt]; exact pf_snoc h0, hp⟩
  ·
   obtain ⟨q, h3, h4⟩ := K.k1 i hi (((hac i).1 h1).resolve_left e) h2
   exact ⟨q, pf_left h3, h4⟩
 have L2 : ∀ q ∈ kept ++ [p], ∃ i, i < n ∧ acS acc i0 i = true ∧ ¬ dn n ow acc (ow i) ∧ q.t = at32 T i := fun q hq => by
  rcases List.mem_append.1 hq with hq | hq
  ·
   obtain ⟨i, h1, h2, h3, h4⟩ := K.k2 q hq
   exact ⟨i, h1, (hac i).2 (.inr h2), h3, h4⟩
  ·
   rw [List.mem_singleton.1 hq]
   exact ⟨i0, hi0, (hac i0).2 (.inl rfl), hnd0, hpt⟩
 have L3 : ∀ x q, pf (kept ++ [p]) x = some q → ∃ i, i < n ∧ acS acc i0 i = true ∧ ¬ dn n ow acc (ow i) ∧ x = at32 T i ∧ cpP q (P i) := fun x q h => by
  obtain ⟨hq, ht⟩ := pf_mem h
  obtain ⟨i, h1, h2, h3, h4⟩ := L2 q hq
  obtain ⟨q', h5, h6⟩ := L1 i h1 h2 h3
  rw [← h4, ht, h] at h5
  cases h5
  exact ⟨i, h1, h2, h3, by rw [← ht, h4], h6⟩
 refine ⟨fun hd => ⟨put_none hp32 h0 (by omega) fun n' back r hn' hb hr w => hd ?_, ?_⟩, fun hd => ?_⟩
 ·
  -- a whole row would be all of the message
  obtain ⟨hrl, hrk⟩ := (rowN_iff _ _ _ _).1 hr
  have t0 := row_t hr (k := 0) (by omega)
  have z0 := hrk 0 (by omega)
  have hf0 : at32 (sub32n p.t back) 0 = sub32n p.t back := by have := sub32n_lt p.t back; unfold at32; omega
  rw [hf0] at z0
  obtain ⟨a, ha1, ha2, ha3, ha4, ha5⟩ := L3 _ _ z0
  have hpl : ∀ j (hj : j < r.length), a + j < n ∧ acS acc i0 (a + j) = true ∧ cpP r[j] (P (a + j)) := fun j hj => by
   obtain ⟨i, h1, h2, h3, h4, h5⟩ := L3 _ _ (hrk j hj)
   rw [ha4, at_at] at h4
   have := at32_inj (by omega) (by omega) h4
   subst this
   exact ⟨h1, h2, h5⟩
  have hfl : ∀ j (hj : j < r.length), r[j].fl = (P (a + j)).fl := fun j hj => by
   obtain ⟨_, _, e⟩ := (hpl j hj).2.2
   rw [e]
  have hb2 : ∀ j, j < r.length → (a + j = st (ow (a + j)) ↔ j = 0) := fun j hj => by
   have h1 := (w.each j hj).b
   rw [hfl j hj, X.pb _ (hpl j hj).1] at h1
   exact decide_eq_decide.1 h1
  have hb1 : ∀ j, j < r.length → (a + j = st (ow (a + j)) + cn (ow (a + j)) - 1 ↔ j = r.length - 1) := fun j hj => by
   have h1 := (w.each j hj).e
   rw [hfl j hj, X.pe _ (hpl j hj).1] at h1
   exact decide_eq_decide.1 h1
  have hsame : ∀ j, j < r.length → ow (a + j) = ow a := fun j => by
   induction j with
   | zero => exact fun _ => rfl
   | succ j ih =>
    intro hj
    have e := ih (by omega)
    have hj1 := (hpl (j + 1) hj).1
    have g1 := (X.seg (ow a) (a + j) (X.ow_lt _ (by omega)) (by omega)).1 e
    have l2 := X.ow_lt _ hj1
    have g2 := (X.seg (ow (a + (j + 1))) (a + (j + 1)) l2 hj1).1 rfl
    have l1 := X.ow_lt a ha1
    rcases Nat.lt_trichotomy (ow (a + (j + 1))) (ow a) with q | q | q
    · have := X.ord _ _ q l1; omega
    · exact q
    ·
     have := X.ord _ _ q l2
     have := (hb2 (j + 1) hj).1 (by omega)
     omega
  have hback : a + back = i0 := by
   have e1 := sub_at p.t back hp32 (by omega)
   rw [ha4, at_at, hpt] at e1
   exact at32_inj (by omega) (by omega) e1
  have hg : ow i0 = ow a := by rw [← hback]; exact hsame back (by omega)
  have hst := (hb2 0 (by omega)).2 rfl
  have hen := (hb1 (r.length - 1) (by omega)).2 rfl
  rw [hsame _ (by omega)] at hen
  rw [Nat.add_zero] at hst
  have hcp := (X.cnp (ow a) (X.ow_lt a ha1)).1
  intro i hi ho
  rw [hg] at ho
  have := (X.seg (ow a) i (X.ow_lt a ha1) hi).1 ho
  have := (hpl (i - a) (by omega)).2.1
  rwa [show a + (i - a) = i by omega] at this
 ·
  refine ⟨fun i hi h1 h2 => ?_, fun q hq => ?_, ndL⟩
  ·
   by_cases e : ow i = ow i0
   · exact L1 i hi h1 (by rw [e]; exact hnd0)
   · exact L1 i hi h1 (fun d => h2 ((dn_acS e).2 d))
  ·
   obtain ⟨i, h1, h2, h3, h4⟩ := L2 q hq
   refine ⟨i, h1, h2, fun d => ?_, h4⟩
   by_cases e : ow i = ow i0
   · rw [e] at d; exact hd d
   · exact h3 ((dn_acS e).1 d)
 ·
  -- the message is whole
  obtain ⟨g, hg⟩ : ∃ g, g = ow i0 := ⟨_, rfl⟩
  rw [← hg] at hd hnd0 ⊢
  have hgL : g < L := by rw [hg]; exact X.ow_lt i0 hi0
  obtain ⟨hc0, hcn⟩ := X.cnp g hgL
  have hseg := fun i hi => X.seg g i hgL hi
  have hi0s := (hseg i0 hi0).1 hg.symm
  have hrow : ∀ j, j < cn g → ∃ q, pf (kept ++ [p]) (at32 (at32 T (st g)) j) = some q ∧ cpP q (P (st g + j)) := fun j hj => by
   have ho := (hseg (st g + j) (by omega)).2 (by omega)
   rw [at_at]
   exact L1 _ (by omega) (hd _ (by omega) ho) (by rw [ho]; exact hnd0)
  obtain ⟨r, hr⟩ := rowN_all (kept ++ [p]) (at32 T (st g)) (cn g) fun j hj => let ⟨q, h1, _⟩ := hrow j hj; ⟨q, h1⟩
  obtain ⟨hrl, hrk⟩ := (rowN_iff _ _ _ _).1 hr
  have hcp : ∀ j (hj : j < r.length), cpP r[j] (P (st g + j)) := fun j hj => by
   obtain ⟨q, h1, h2⟩ := hrow j (by omega)
   rw [hrk j hj] at h1
   cases h1
   exact h2
  have hz0 := hcp 0 (by omega)
  have ho : ∀ j, j < cn g → ow (st g + j) = g := fun j hj => (hseg _ (by omega)).2 (by omega)
  have w : Whole r := ⟨by omega, fun j hj => by
   obtain ⟨a, c, e⟩ := hcp j hj
   obtain ⟨a', c', e'⟩ := hz0
   have o1 := ho j (by omega)
   have o0 := ho 0 (by omega)
   have l1 : st g + j < n := by omega
   have l0 : st g + 0 < n := by omega
   rw [e, e']
   refine ⟨?_, ?_, ?_, ?_, ?_, ?_⟩
   ·
    show (P (st g + j)).t = at32 (P (st g + 0)).t j
    rw [X.pt _ l1, X.pt _ l0, at_at]; rfl
   ·
    show (P (st g + j)).sid = (P (st g + 0)).sid
    rw [X.psid _ l1, X.psid _ l0, o1, o0]
   ·
    show (P (st g + j)).ssn = (P (st g + 0)).ssn
    rw [X.pssn _ l1, X.pssn _ l0, o1, o0]
   ·
    show bitB (P (st g + j)).fl 4 = bitB (P (st g + 0)).fl 4
    rw [X.pu _ l1, X.pu _ l0, o1, o0]
   ·
    show bitB (P (st g + j)).fl 2 = _
    rw [X.pb _ l1, o1]; exact decide_eq_decide.2 (by omega)
   ·
    show bitB (P (st g + j)).fl 1 = _
    rw [X.pe _ l1, o1]; exact decide_eq_decide.2 (by omega)⟩
  have hsub : sub32n p.t (i0 - st g) = at32 T (st g) := by
   rw [hpt, show i0 = st g + (i0 - st g) by omega, ← at_at, Nat.add_sub_cancel_left]
   exact at_sub _ _ (at32_lt _ _) (by omega)
  have hlen : cn g ≤ kept.length + 1 := by
   have := nodup_le (l := (List.range (cn g)).map fun j => at32 T (st g + j)) (k := (kept ++ [p]).map (·.t)) (List.pairwise_map.2 (List.nodup_range.imp_of_mem fun h1 h2 hne e => hne (by
    have := List.mem_range.1 h1
    have := List.mem_range.1 h2
    have := at32_inj (by omega) (by omega) e
    omega))) fun x hx => by
    obtain ⟨j, hj, rfl⟩ := List.mem_map.1 hx
    obtain ⟨q, h1, -⟩ := hrow j (List.mem_range.1 hj)
    obtain ⟨h2, h3⟩ := pf_mem h1
    exact List.mem_map.2 ⟨q, h2, by rw [h3, at_at]⟩
   simpa using this
  obtain ⟨z, e0, ezt, ezs, eput⟩ := put_whole (n := cn g) (back := i0 - st g) hp32 h0 hlen (by omega) (by omega) (by rw [hsub]; exact hr) w
  have hz : z = r[0]'(by omega) := by rw [List.getElem?_eq_getElem (by omega)] at e0; exact (Option.some.inj e0).symm
  rw [hsub] at ezt
  rw [← hz] at hz0
  obtain ⟨a, c, ez⟩ := hz0
  have l0 : st g + 0 < n := by omega
  have q1 : z.sid = (M g).sid := by rw [ez]; show (P (st g + 0)).sid = _; rw [X.psid _ l0, ho 0 hc0]
  have q2 : bitB z.fl 4 = (M g).un := by rw [ez]; show bitB (P (st g + 0)).fl 4 = _; rw [X.pu _ l0, ho 0 hc0]
  have q3 : z.ppid = (M g).ppid := by rw [ez]; show (P (st g + 0)).ppid = _; rw [X.pppid _ l0, ho 0 hc0]
  rw [gat_S _ _ _ (by rw [ezt]; exact at32_lt _ _), ezt, show cn g - 1 + 1 = cn g by omega, q1, q2, q3] at eput
  have hdat : ∀ j, j ≤ cn g → (gatS (kept ++ [p]) [] (at32 T (st g)) j).1 = (List.range j).flatMap fun j => (P (st g + j)).z := fun j => by
   induction j with
   | zero => exact fun _ => rfl
   | succ j ih =>
    intro hj
    rw [(gatS_z hr [] (i := j) (by omega) (by omega)).2, List.range_succ, List.flatMap_append, ← ih (by omega)]
    obtain ⟨_, _, e⟩ := hcp j (by omega)
    show _ ++ (r[j]'(by omega)).z = _
    rw [e]
    simp
  rw [hdat _ (Nat.le_refl _), X.data g hgL] at eput
  refine ⟨_, eput, ?_⟩
  obtain ⟨n1, n2⟩ := gatS_nd (L := kept ++ [p]) [] (at32 T (st g)) ndL (cn g)
  refine ⟨fun i hi h1 h2 => ?_, fun q hq => ?_, n1⟩
  ·
   have hne : ow i ≠ g := fun e => h2 (by rw [e]; exact hd)
   have hns : ¬ (st g ≤ i ∧ i < st g + cn g) := fun h => hne ((hseg i hi).2 h)
   obtain ⟨q, h3, h4⟩ := L1 i hi h1 (fun d => h2 ((dn_acS (by rw [← hg]; exact hne)).2 d))
   refine ⟨q, ?_, h4⟩
   rw [← h3]
   rcases Nat.lt_or_ge i (st g) with y | y
   ·
    have e : at32 T i = at32 (at32 T (st g)) (i + 4294967296 - st g) := by rw [at_at]; unfold at32; omega
    rw [e]
    exact gatS_pf _ _ _ _ _ (by omega) (by omega)
   ·
    have e : at32 T i = at32 (at32 T (st g)) (i - st g) := by rw [at_at]; congr 1; omega
    rw [e]
    exact gatS_pf _ _ _ _ _ (by omega) (by omega)
  ·
   obtain ⟨h1, h2⟩ := n2 q hq
   obtain ⟨i, h3, h4, h5, h6⟩ := L2 q h1
   refine ⟨i, h3, h4, fun d => ?_, h6⟩
   by_cases e : ow i = g
   ·
    have := (hseg i h3).1 e
    exact h2 (i - st g) (by omega) (by rw [h6, at_at]; congr 1; omega)
   · exact h5 ((dn_acS (by rw [← hg]; exact e)).1 d)
end
end Go.Proofs.Ytccbmmnkiihkaaa
namespace Go.Proofs.Ytccbmmnkiihkaaa
set_option maxRecDepth 100000
theorem glw_snoc : ∀ (l : WL) (k k' : Nat × Nat) (m : IM), gl (l ++ [(k, m)]) k' = match gl l k' with
  | some x => some x
  | none => if k = k' then some m else none
 | [], k, k', m => rfl
 | p :: l, k, k', m => by
  show (if p.1 = k' then some p.2 else gl (l ++ [(k, m)]) k') = match (if p.1 = k' then some p.2 else gl l k') with
   | some x => some x
   | none => if k = k' then some m else none
  by_cases e : p.1 = k'
  · rw [if_pos e, if_pos e]
  · rw [if_neg e, if_neg e]; exact glw_snoc l k k' m
theorem glw_none : ∀ {l : WL} {k : Nat × Nat}, k ∉ l.map (·.1) → gl l k = none
 | [], k, _ => rfl
 | p :: l, k, h => by
  rw [List.map_cons, List.mem_cons, not_or] at h
  unfold gl
  rw [if_neg (fun e => h.1 e.symm)]; exact glw_none h.2
theorem glw_del : ∀ (l : WL) (k k' : Nat × Nat), (l.map (·.1)).Nodup → gl (gdel l k) k' = if k = k' then none else gl l k'
 | [], k, k', _ => by split <;> rfl
 | p :: l, k, k', hn => by
  rw [List.map_cons, List.nodup_cons] at hn
  unfold gdel
  by_cases e : p.1 = k
  ·
   rw [if_pos e]
   by_cases q : k = k'
   · rw [if_pos q]; exact glw_none (by rw [← q, ← e]; exact hn.1)
   ·
    rw [if_neg q]
    show _ = (if p.1 = k' then some p.2 else gl l k')
    rw [if_neg (by rw [e]; exact q)]
  ·
   rw [if_neg e]
   show (if p.1 = k' then some p.2 else gl (gdel l k) k') = if k = k' then none else (if p.1 = k' then some p.2 else gl l k')
   rw [glw_del l k k' hn.2]
   by_cases q : p.1 = k'
   · rw [if_pos q, if_pos q, if_neg (fun r => e (by rw [q, r]))]
   · rw [if_neg q, if_neg q]
theorem gdel_sub : ∀ {l : WL} {k x : Nat × Nat}, x ∈ (gdel l k).map (·.1) → x ∈ l.map (·.1)
 | p :: l, k, x, h => by
  unfold gdel at h
  by_cases e : p.1 = k
  · rw [if_pos e] at h; exact List.mem_cons_of_mem _ h
  ·
   rw [if_neg e] at h
   rcases List.mem_cons.1 h with q | q
   · exact List.mem_cons.2 (.inl q)
   · exact List.mem_cons_of_mem _ (gdel_sub q)
theorem gdel_nd : ∀ {l : WL} {k : Nat × Nat}, (l.map (·.1)).Nodup → ((gdel l k).map (·.1)).Nodup
 | [], k, _ => List.nodup_nil
 | p :: l, k, hn => by
  rw [List.map_cons, List.nodup_cons] at hn
  unfold gdel
  by_cases e : p.1 = k
  · rw [if_pos e]; exact hn.2
  ·
   rw [if_neg e, List.map_cons, List.nodup_cons]
   exact ⟨fun h => hn.1 (gdel_sub h), gdel_nd hn.2⟩
structure MsI (L : Nat) (M : Nat → IM) (rk : Nat → Nat) (D : Nat → Prop) (e : Option Nat) (nf : Nat → Nat) (w : WL) (dl : List Nat) : Prop where
 d1 : dl.Nodup
 d2 : ∀ g ∈ dl, g < L ∧ D g
 d3 : ∀ g, g < L → (M g).un = true → D g → g ∈ dl
 d4 : ∀ g, g < L → (M g).un = false → (g ∈ dl ↔ rk g < nf (M g).sid)
 d5 : dl.Pairwise fun a b => (M a).un = false → (M b).un = false → (M a).sid = (M b).sid → a < b
 nb : ∀ s r, r < nf s → ∃ g, g < L ∧ (M g).un = false ∧ (M g).sid = s ∧ rk g = r
 w1 : ∀ s r m, gl w (s, r) = some m → ∃ g, g < L ∧ (M g).un = false ∧ (M g).sid = s ∧ rk g = r ∧ D g ∧ g ∉ dl ∧ m.w = (M g).w
 w2 : ∀ g, g < L → (M g).un = false → D g → g ∉ dl → ∃ m, gl w ((M g).sid, rk g) = some m
 w3 : (w.map (·.1)).Nodup
 w4 : ∀ s, e ≠ some s → gl w (s, nf s) = none
def upf (nf : Nat → Nat) (s v : Nat) : Nat → Nat := fun x => if x = s then v else nf x
theorem upf_same (nf : Nat → Nat) (s v : Nat) : upf nf s v s = v := if_pos rfl
theorem upf_ne (nf : Nat → Nat) {s v x : Nat} (h : x ≠ s) : upf nf s v x = nf x := if_neg h
section
variable {n L : Nat} {P : Nat → PV} {M : Nat → IM} {ow st cn rk : Nat → Nat} {T S : Nat} {most : Int} {D D' : Nat → Prop} {nf : Nat → Nat} {w w' : WL} {dl : List Nat} {e : Option Nat}
theorem Snd.rk_inj (X : Snd n L P M ow st cn rk T S most) {a b : Nat} (ha : a < L) (hb : b < L) (ua : (M a).un = false) (ub : (M b).un = false) (hs : (M a).sid = (M b).sid) (h : rk a = rk b) : a = b := by
 rcases Nat.lt_trichotomy a b with q | q | q
 · have := X.rk_lt a b q hb ua ub hs; omega
 · exact q
 · have := X.rk_lt b a q ha ub ua hs.symm; omega
theorem Snd.rk60 (X : Snd n L P M ow st cn rk T S most) {g : Nat} (hg : g < L) (u : (M g).un = false) : rk g < 60 := by
 have h : ∀ r, r ≤ rk g → ∃ g', g' ≤ g ∧ (M g').un = false ∧ (M g').sid = (M g).sid ∧ rk g' = r := fun r hr => by
  rcases Nat.eq_or_lt_of_le hr with q | q
  · exact ⟨g, Nat.le_refl _, u, rfl, q.symm⟩
  ·
   obtain ⟨g', h1, h2, h3, h4⟩ := X.rk_dn g r hg u q
   exact ⟨g', by omega, h2, h3, h4⟩
 have := nodup_le (l := List.range (rk g + 1)) (k := (List.range L).map rk) List.nodup_range fun r hr => by
  obtain ⟨g', h1, h2, h3, h4⟩ := h r (by have := List.mem_range.1 hr; omega)
  exact List.mem_map.2 ⟨g', List.mem_range.2 (by omega), h4⟩
 simp only [List.length_range, List.length_map] at this
 have := X.L60
 have := X.n60
 omega
theorem MsI.n60 (X : Snd n L P M ow st cn rk T S most) (I : MsI L M rk D e nf w dl) (s : Nat) : nf s ≤ 60 := by
 rcases Nat.eq_zero_or_pos (nf s) with q | q
 · omega
 ·
  obtain ⟨g, h1, h2, h3, h4⟩ := I.nb s (nf s - 1) (by omega)
  have := X.rk60 h1 h2
  omega
theorem MsI.push (X : Snd n L P M ow st cn rk T S most) (I : MsI L M rk D e nf w dl) {g : Nat} (hg : g < L) (u : (M g).un = false) (hr : rk g = nf (M g).sid) (he : e = none ∨ e = some (M g).sid) (hnd : g ∉ dl) (hD : ∀ x, D' x ↔ D x ∨ x = g) (hw : ∀ k, k ≠ ((M g).sid, rk g) → gl w' k = gl w k) (hw0 : gl w' ((M g).sid, rk g) = none) (hw3 : (w'.map (·.1)).Nodup) : MsI L M rk D' (some (M g).sid) (upf nf (M g).sid (rk g + 1)) w' (dl ++ [g]) := by
 refine ⟨?_, fun x hx => ?_, fun x hx ux dx => ?_, fun x hx ux => ?_, ?_, fun s r hr' => ?_, fun s r m hm => ?_, fun x hx ux dx hn => ?_, hw3, fun s hs => ?_⟩
 ·
  rw [List.nodup_append]
  exact ⟨I.d1, by simp, fun a h1 b h2 q => by rw [List.mem_singleton] at h2; subst h2; subst q; exact hnd h1⟩
 ·
  rcases List.mem_append.1 hx with q | q
  ·
   obtain ⟨h1, h2⟩ := I.d2 x q
   exact ⟨h1, (hD x).2 (.inl h2)⟩
  ·
   rw [List.mem_singleton.1 q]
   exact ⟨hg, (hD g).2 (.inr rfl)⟩
 ·
  rcases (hD x).1 dx with q | q
  · exact List.mem_append_left _ (I.d3 x hx ux q)
  · rw [q]; simp
 ·
  rw [List.mem_append, List.mem_singleton, I.d4 x hx ux]
  by_cases q : (M x).sid = (M g).sid
  ·
   rw [q, upf_same, ← hr]
   constructor
   ·
    rintro (h | h)
    · omega
    · rw [h]; omega
   ·
    intro h
    rcases Nat.eq_or_lt_of_le (Nat.le_of_lt_succ h) with y | y
    · exact .inr (X.rk_inj hx hg ux u q y)
    · exact .inl y
  ·
   rw [upf_ne _ q]
   exact ⟨fun h => h.elim id (fun h => absurd (by rw [h]) q), .inl⟩
 ·
  rw [List.pairwise_append]
  refine ⟨I.d5, by simp, fun a ha b hb ua ub hs => ?_⟩
  rw [List.mem_singleton] at hb
  subst hb
  have haL := (I.d2 a ha).1
  have h1 := (I.d4 a haL ua).1 ha
  rw [hs, ← hr] at h1
  rcases Nat.lt_trichotomy a b with y | y | y
  · exact y
  · rw [y] at ha; exact absurd ha hnd
  · have := X.rk_lt b a y haL ub ua hs.symm; omega
 ·
  by_cases q : s = (M g).sid
  ·
   rw [q, upf_same] at hr'
   rcases Nat.eq_or_lt_of_le (Nat.le_of_lt_succ hr') with y | y
   · exact ⟨g, hg, u, q.symm, y.symm⟩
   · exact I.nb s r (by rw [q, ← hr]; exact y)
  ·
   rw [upf_ne _ q] at hr'
   exact I.nb s r hr'
 ·
  have hne : (s, r) ≠ ((M g).sid, rk g) := fun q => by rw [q, hw0] at hm; cases hm
  rw [hw _ hne] at hm
  obtain ⟨x, a1, a2, a3, a4, a5, a6, a7⟩ := I.w1 s r m hm
  refine ⟨x, a1, a2, a3, a4, (hD x).2 (.inl a5), fun h => ?_, a7⟩
  rcases List.mem_append.1 h with q | q
  · exact a6 q
  ·
   rw [List.mem_singleton.1 q] at a3 a4
   exact hne (by rw [a3, a4])
 ·
  rw [List.mem_append, not_or, List.mem_singleton] at hn
  rcases (hD x).1 dx with q | q
  ·
   obtain ⟨m, hm⟩ := I.w2 x hx ux q hn.1
   refine ⟨m, ?_⟩
   rw [hw _ (fun y => hn.2 ?_)]
   · exact hm
   ·
    have := Prod.mk.inj y
    exact X.rk_inj hx hg ux u this.1 this.2
  · exact absurd q hn.2
 ·
  have hs' : s ≠ (M g).sid := fun q => hs (by rw [q])
  rw [upf_ne _ hs', hw _ (fun q => hs' (Prod.mk.inj q).1)]
  refine I.w4 s fun q => ?_
  rcases he with y | y
  · rw [y] at q; cases q
  · rw [y] at q; exact hs q
theorem upf_upf (nf : Nat → Nat) (s a b : Nat) : upf (upf nf s a) s b = upf nf s b := by
 funext x; unfold upf; split <;> rfl
theorem drain_sent (X : Snd n L P M ow st cn rk T S most) (sid : Nat) : ∀ (m t : Nat) (w : WL) (rd : List IM) (dl : List Nat), MsI L M rk D (some sid) (upf nf sid t) w dl → w.length < m → ∃ add, (drainN m sid t w rd).2.2.map IM.w = rd.map IM.w ++ add.map (fun g => (M g).w) ∧ MsI L M rk D none (upf nf sid (drainN m sid t w rd).1) (drainN m sid t w rd).2.1 (dl ++ add)
 | 0, t, w, rd, dl, I, h => absurd h (Nat.not_lt_zero _)
 | m + 1, t, w, rd, dl, I, h => by
  cases hg : gl w (sid, t) with
  | none =>
   rw [drainN_none hg]
   refine ⟨[], by simp, ?_⟩
   rw [List.append_nil]
   refine ⟨I.d1, I.d2, I.d3, I.d4, I.d5, I.nb, I.w1, I.w2, I.w3, fun s _ => ?_⟩
   by_cases q : s = sid
   · subst q; rw [upf_same]; exact hg
   · exact I.w4 s (fun e => q (Option.some.inj e).symm)
  | some x =>
   rw [drainN_some hg]
   obtain ⟨g, a1, a2, a3, a4, a5, a6, a7⟩ := I.w1 sid t x hg
   have ht := X.rk60 a1 a2
   have hnx : nx16 t = rk g + 1 := by unfold nx16; omega
   have I2 := I.push X (D' := D) (w' := gdel w (sid, t)) a1 a2 (by rw [a3, upf_same]; exact a4) (.inr (by rw [a3])) a6 (fun y => ⟨.inl, fun q => q.elim id (fun q => by rw [q]; exact a5)⟩) (fun k hk => by rw [glw_del _ _ _ I.w3, if_neg (fun q => hk (by rw [a3, a4]; exact q.symm))]) (by rw [a3, a4, glw_del _ _ _ I.w3, if_pos rfl]) (gdel_nd I.w3)
   rw [a3, upf_upf, ← hnx] at I2
   obtain ⟨add, h1, h2⟩ := drain_sent X sid m (nx16 t) (gdel w (sid, t)) (rd ++ [x]) (dl ++ [g]) I2 (by have := gdel_len hg; omega)
   refine ⟨g :: add, ?_, ?_⟩
   ·
    rw [h1, List.map_append, List.append_assoc]
    simp [a7]
   · rw [List.append_assoc] at h2; exact h2
theorem upf_nput (nx : List (Nat × Nat)) (s v : Nat) : (fun x => nget (nput nx s v) x) = upf (fun x => nget nx x) s v := by
 funext x; exact nget_put nx s v x
theorem iw_len {m m' : IM} (h : m.w = m'.w) : m.sid = m'.sid ∧ m.un = m'.un ∧ m.ppid = m'.ppid ∧ m.z = m'.z := by
 unfold IM.w at h
 injection h with h1 h2 h3 h4 h5 h6
 exact ⟨h1, h2, h3, h6⟩
theorem msg_sent (X : Snd n L P M ow st cn rk T S most) {s s' : IS} (I : MsI L M rk D none (fun x => nget s.next x) s.waits dl) {g : Nat} (hg : g < L) (hnD : ¬ D g) (hD : ∀ x, D' x ↔ D x ∨ x = g) {m : IM} (hm : m.w = (M g).w) {ssn : Nat} (hss : ssn = if (M g).un = true then 0 else rk g) (h : msgN s m ssn = some s' ∨ msgN s m ssn = none ∧ s' = s) :
  msgN s m ssn = some s' ∧ ∃ add, s'.ready.map IM.w = s.ready.map IM.w ++ add.map (fun g => (M g).w) ∧ MsI L M rk D' none (fun x => nget s'.next x) s'.waits (dl ++ add) := by
 obtain ⟨e1, e2, e3, e4⟩ := iw_len hm
 have hgd : g ∉ dl := fun h => hnD (I.d2 g h).2
 unfold msgN at h ⊢
 rw [e2] at h ⊢
 cases hu : (M g).un with
 | true =>
  rw [hu, if_pos rfl] at h
  rw [if_pos rfl]
  rcases h with h | ⟨h, -⟩
  ·
   cases h
   refine ⟨rfl, [g], by simp [hm], ?_⟩
   refine ⟨?_, fun x hx => ?_, fun x hx ux dx => ?_, fun x hx ux => ?_, ?_, I.nb, fun a r y hy => ?_, fun x hx ux dx hn => ?_, I.w3, I.w4⟩
   ·
    rw [List.nodup_append]
    exact ⟨I.d1, by simp, fun a h1 b h2 q => by rw [List.mem_singleton] at h2; subst h2; subst q; exact hgd h1⟩
   ·
    rcases List.mem_append.1 hx with q | q
    ·
     obtain ⟨h1, h2⟩ := I.d2 x q
     exact ⟨h1, (hD x).2 (.inl h2)⟩
    ·
     rw [List.mem_singleton.1 q]
     exact ⟨hg, (hD g).2 (.inr rfl)⟩
   ·
    rcases (hD x).1 dx with q | q
    · exact List.mem_append_left _ (I.d3 x hx ux q)
    · rw [q]; simp
   ·
    rw [List.mem_append, List.mem_singleton]
    refine ⟨fun h => (I.d4 x hx ux).1 (h.elim id fun q => ?_), fun h => .inl ((I.d4 x hx ux).2 h)⟩
    rw [q, hu] at ux; cases ux
   ·
    rw [List.pairwise_append]
    refine ⟨I.d5, by simp, fun a ha b hb ua ub hs => ?_⟩
    rw [List.mem_singleton.1 hb, hu] at ub; cases ub
   ·
    obtain ⟨x, a1, a2, a3, a4, a5, a6, a7⟩ := I.w1 a r y hy
    refine ⟨x, a1, a2, a3, a4, (hD x).2 (.inl a5), fun h => ?_, a7⟩
    rcases List.mem_append.1 h with q | q
    · exact a6 q
    · rw [List.mem_singleton.1 q, hu] at a2; cases a2
   ·
    rw [List.mem_append, not_or] at hn
    rcases (hD x).1 dx with q | q
    · exact I.w2 x hx ux q hn.1
    · rw [q, hu] at ux; cases ux
  · cases h
 | false =>
  rw [hu, if_neg (by decide)] at h hss
  rw [if_neg (by decide)]
  rw [e1] at h ⊢
  have hrk := X.rk60 hg hu
  have hge : nget s.next (M g).sid ≤ rk g := Nat.le_of_not_lt fun h => hgd ((I.d4 g hg hu).2 h)
  by_cases hn : ssn = nget s.next (M g).sid
  ·
   rw [if_pos hn] at h ⊢
   rcases h with h | ⟨h, -⟩
   ·
    cases h
    refine ⟨rfl, ?_⟩
    have hrn : rk g = nget s.next (M g).sid := by rw [← hss]; exact hn
    have hw0 : gl s.waits ((M g).sid, rk g) = none := by rw [hrn]; exact I.w4 _ (by simp)
    have I2 := I.push X (D' := D') (w' := s.waits) hg hu hrn (.inl rfl) hgd hD (fun k _ => rfl) hw0 I.w3
    have hnx : nx16 ssn = rk g + 1 := by unfold nx16; omega
    rw [← hnx] at I2
    obtain ⟨add, h1, h2⟩ := drain_sent X (M g).sid (s.waits.length + 1) (nx16 ssn) s.waits (s.ready ++ [m]) (dl ++ [g]) I2 (Nat.lt_succ_self _)
    refine ⟨g :: add, ?_, ?_⟩
    ·
     simp only
     rw [h1, List.map_append, List.append_assoc]
     simp [hm]
    ·
     simp only
     rw [upf_nput]
     rw [List.append_assoc] at h2; exact h2
   · cases h
  ·
   rw [if_neg hn] at h ⊢
   have hw0 : gl s.waits ((M g).sid, ssn) = none := by
    cases hq : gl s.waits ((M g).sid, ssn) with
    | none => rfl
    | some y =>
     obtain ⟨x, a1, a2, a3, a4, a5, -, -⟩ := I.w1 _ _ _ hq
     have := X.rk_inj a1 hg a2 hu a3 (by rw [a4, hss])
     subst this
     exact absurd a5 hnD
   have hb : bef16 (nget s.next (M g).sid) ssn = true := by
    have h60 : nget s.next (M g).sid ≤ 60 := I.n60 X (M g).sid
    unfold bef16
    simp only [Bool.and_eq_true, decide_eq_true_eq]
    omega
   rw [if_pos ⟨hb, hw0⟩] at h ⊢
   rcases h with h | ⟨h, -⟩
   ·
    cases h
    refine ⟨rfl, [], by simp, ?_⟩
    rw [List.append_nil]
    have hkey : ((M g).sid, ssn) ∉ s.waits.map (·.1) := fun hm => by
     have hpos : ∀ {l : WL} {k : Nat × Nat}, k ∈ l.map (·.1) → gl l k ≠ none := fun {l k} => by
      induction l with
      | nil => exact fun h => by cases h
      | cons p l ih =>
       intro h
       unfold gl
       by_cases q : p.1 = k
       · rw [if_pos q]; exact fun e => by cases e
       ·
        rw [if_neg q]
        rcases List.mem_cons.1 h with y | y
        · exact absurd y.symm q
        · exact ih y
     exact hpos hm hw0
    refine ⟨I.d1, fun x hx => ?_, fun x hx ux dx => ?_, I.d4, I.d5, I.nb, fun a r y hy => ?_, fun x hx ux dx hn' => ?_, ?_, fun a _ => ?_⟩
    ·
     obtain ⟨h1, h2⟩ := I.d2 x hx
     exact ⟨h1, (hD x).2 (.inl h2)⟩
    ·
     rcases (hD x).1 dx with q | q
     · exact I.d3 x hx ux q
     · rw [q, hu] at ux; cases ux
    ·
     rw [glw_snoc] at hy
     cases hq : gl s.waits (a, r) with
     | some y' =>
      rw [hq] at hy
      cases hy
      obtain ⟨x, a1, a2, a3, a4, a5, a6, a7⟩ := I.w1 a r y hq
      exact ⟨x, a1, a2, a3, a4, (hD x).2 (.inl a5), a6, a7⟩
     | none =>
      rw [hq] at hy
      simp only at hy
      by_cases q : ((M g).sid, ssn) = (a, r)
      ·
       rw [if_pos q] at hy
       cases hy
       obtain ⟨q1, q2⟩ := Prod.mk.inj q
       exact ⟨g, hg, hu, q1, by rw [← hss]; exact q2, (hD g).2 (.inr rfl), hgd, hm⟩
      · rw [if_neg q] at hy; cases hy
    ·
     rw [glw_snoc]
     rcases (hD x).1 dx with q | q
     ·
      obtain ⟨y, hy⟩ := I.w2 x hx ux q hn'
      exact ⟨y, by rw [hy]⟩
     ·
      subst q
      rw [← hss, hw0]
      exact ⟨m, by simp⟩
    ·
     rw [List.map_append, List.nodup_append]
     refine ⟨I.w3, by simp, fun a h1 b h2 q => ?_⟩
     simp only [List.map_cons, List.map_nil, List.mem_singleton] at h2
     subst h2
     subst q
     exact hkey h1
    ·
     rw [glw_snoc, I.w4 a (by simp)]
     simp only
     rw [if_neg]
     intro q
     obtain ⟨q1, q2⟩ := Prod.mk.inj q
     rw [← q1] at q2
     exact hn q2
   · cases h
end
end Go.Proofs.Ytccbmmnkiihkaaa
namespace Go.Proofs.Ytccbmmnkiihkaaa
set_option maxRecDepth 100000
def sumM (M : Nat → IM) (l : List Nat) : Nat := (l.map fun g => (M g).z.length).sum
theorem sumM_app (M : Nat → IM) (a b : List Nat) : sumM M (a ++ b) = sumM M a + sumM M b := by simp [sumM]
theorem putN_heldE {l : List PV} {p : PV} {ms : MS} (h : (putN l p).2 = some ms) : heldN (putN l p).1 + ms.2.2.2.length = heldN l + p.z.length := by
 rcases putN_cases l p with e | e | ⟨n, u, f, hf, e⟩
 · rw [e] at h; cases h
 · rw [e] at h; cases h
 ·
  rw [e] at h ⊢
  cases h
  have := gat_held n u (l ++ [p]) []
  rw [held_snoc] at this
  simp only [List.length_nil] at this ⊢
  omega
theorem hs_seg {w : Nat → Nat} {n a : Nat} : ∀ {c : Nat}, a + c ≤ n → hs w (fun i => decide (a ≤ i) && decide (i < a + c)) n = ((List.range c).map fun j => w (a + j)).sum
 | 0, h => hs_zero fun i hi => by
   rw [Bool.and_eq_false_iff]
   rcases Nat.lt_or_ge i a with q | q
   · exact .inl (decide_eq_false (by omega))
   · exact .inr (decide_eq_false (by omega))
 | c + 1, h => by
  have ih := hs_seg (w := w) (n := n) (a := a) (c := c) (by omega)
  rw [List.range_succ, List.map_append, List.sum_append, ← ih]
  have e : hs w (fun i => decide (a ≤ i) && decide (i < a + (c + 1))) n = hs w (fun i => (decide (a ≤ i) && decide (i < a + c)) || decide (i = a + c)) n := hs_congr fun i hi => by
   rw [Bool.eq_iff_iff]
   simp only [Bool.and_eq_true, Bool.or_eq_true, decide_eq_true_eq]
   omega
  rw [e, hs_or, hs_one (by omega)]
  · simp
  ·
   intro i hi h1
   simp only [Bool.and_eq_true, decide_eq_true_eq] at h1
   exact decide_eq_false (by omega)
section
variable {n L : Nat} {P : Nat → PV} {M : Nat → IM} {ow st cn rk : Nat → Nat} {T S : Nat} {most : Int} {A : IA} {acc : Nat → Bool} {k tl : Nat} {dl : List Nat} {t t' : IT}
theorem Snd.len (X : Snd n L P M ow st cn rk T S most) {g : Nat} (hg : g < L) : hs (fun i => (P i).z.length) (fun i => decide (ow i = g)) n = (M g).z.length := by
 obtain ⟨h1, h2⟩ := X.cnp g hg
 have e : hs (fun i => (P i).z.length) (fun i => decide (ow i = g)) n = hs (fun i => (P i).z.length) (fun i => decide (st g ≤ i) && decide (i < st g + cn g)) n := hs_congr fun i hi => by
  rw [Bool.eq_iff_iff]
  simp only [Bool.and_eq_true, decide_eq_true_eq]
  exact X.seg g i hg hi
 rw [e, hs_seg h2, ← X.data g hg]
 rw [List.length_flatMap]
theorem Snd.sum (X : Snd n L P M ow st cn rk T S most) : ∀ {l : List Nat}, l.Nodup → (∀ g ∈ l, g < L) → hs (fun i => (P i).z.length) (fun i => decide (ow i ∈ l)) n = sumM M l
 | [], _, _ => hs_zero fun i hi => decide_eq_false List.not_mem_nil
 | g :: l, hn, hl => by
  rw [List.nodup_cons] at hn
  have ih := X.sum hn.2 fun x hx => hl x (List.mem_cons_of_mem _ hx)
  have e : hs (fun i => (P i).z.length) (fun i => decide (ow i ∈ g :: l)) n = hs (fun i => (P i).z.length) (fun i => decide (ow i = g) || decide (ow i ∈ l)) n := hs_congr fun i hi => by
   rw [Bool.eq_iff_iff]
   simp only [Bool.or_eq_true, decide_eq_true_eq, List.mem_cons]
  rw [e, hs_or, X.len (hl g (by simp)), ih]
  · rfl
  ·
   intro i hi h1
   have := of_decide_eq_true h1
   exact decide_eq_false (by rw [this]; exact hn.1)
structure Tin (n L : Nat) (P : Nat → PV) (M : Nat → IM) (ow rk : Nat → Nat) (T : Nat) (A : IA) (acc : Nat → Bool) (k : Nat) (dl : List Nat) (tl : Nat) (t : IT) : Prop where
 set : SetOk T n acc k t.c t.ks
 ac : acc n = false
 kp : KeptOk n P ow T acc t.kept
 ms : MsI L M rk (dn n ow acc) none (fun x => nget t.s.next x) t.s.waits dl
 tle : tl ≤ dl.length
 rd : t.s.ready.map IM.w = (dl.drop tl).map fun g => (M g).w
 H : t.held + sumM M (dl.take tl) = hs (fun i => (P i).z.length) acc n
 AH : hs (fun i => (P i).z.length) (fun i => decide (k ≤ i) && (acc i && !decide (ow i ∈ dl.take tl))) n ≤ A.rm - A.sp
theorem Tin.held (X : Snd n L P M ow st cn rk T S most) (I : Tin n L P M ow rk T A acc k dl tl t) : hs (fun i => (P i).z.length) (fun i => acc i && !decide (ow i ∈ dl.take tl)) n = t.held := by
 have hsub : ∀ g ∈ dl.take tl, g ∈ dl := fun g hg => List.mem_of_mem_take hg
 have h1 := X.sum (l := dl.take tl) (I.ms.d1.sublist (List.take_sublist _ _)) fun g hg => (I.ms.d2 g (hsub g hg)).1
 have h2 : hs (fun i => (P i).z.length) acc n = hs (fun i => (P i).z.length) (fun i => (acc i && !decide (ow i ∈ dl.take tl)) || decide (ow i ∈ dl.take tl)) n := hs_congr fun i hi => by
  rw [Bool.eq_iff_iff]
  simp only [Bool.or_eq_true, Bool.and_eq_true, Bool.not_eq_true', decide_eq_true_eq, decide_eq_false_iff_not]
  constructor
  ·
   intro h
   by_cases q : ow i ∈ dl.take tl
   · exact .inr q
   · exact .inl ⟨h, q⟩
  ·
   rintro (h | h)
   · exact h.1
   · exact (I.ms.d2 _ (hsub _ h)).2 i hi rfl
 rw [hs_or, h1] at h2
 ·
  have := I.H
  omega
 ·
  intro i hi h
  simp only [Bool.and_eq_true, Bool.not_eq_true', decide_eq_false_iff_not] at h
  exact decide_eq_false h.2
theorem limit_at (X : Snd n L P M ow st cn rk T S most) (s : SetOk T n acc k t.c t.ks) {i : Nat} (hi : i < n) : limitI A t (P i) = if i = k then (A.rm : Int) else (A.rm : Int) - (A.sp : Int) := by
 have hn := X.n60
 have hk := s.kn
 have h := (c_at (T := T) (i := i) (k := k) (by omega) (by omega)).2.2.2
 unfold limitI
 rw [X.pt i hi, s.c]
 by_cases q : i = k
 · rw [if_pos (h.2 q), if_pos q]
 · rw [if_neg (fun e => q (h.1 e)), if_neg q]
theorem inv_add (X : Snd n L P M ow st cn rk T S most) (hS : S = A.st) (hsp : A.sp ≤ A.rm) (I : Tin n L P M ow rk T A acc k dl tl t) {i : Nat} (hi : i < n) {code : Int} (h : AddI A t (P i) code t') :
  ∃ acc' k' dl', Tin n L P M ow rk T A acc' k' dl' tl t' ∧ dl'.take tl = dl.take tl ∧ k ≤ k' ∧ (code = 0 → i = k → k < k') ∧ (i = k → (t.held : Int) + (P i).z.length ≤ A.rm → code = 0) := by
 have hn := X.n60
 have hpz := X.pz i hi
 have hpt := X.pt i hi
 have hlim := limit_at (A := A) X I.set hi
 have hset : ∀ {code : Int} {c' : Nat} {ks' ds' : List Nat}, addN t.c t.ks t.ds (P i).t = (0, c', ks', ds') → acc i = false := fun {code c' ks' ds'} ha => by
  cases hq : acc i with
  | false => rfl
  | true =>
   rw [hpt, addN_has _ (by rw [I.set.has (by omega) hi]; exact hq)] at ha
   cases ha
 have hnew : acc i = false → ∀ {c' : Nat} {ks' ds' : List Nat}, addN t.c t.ks t.ds (P i).t = (0, c', ks', ds') → ∃ k', SetOk T n (acS acc i) k' c' ks' ∧ k ≤ k' ∧ (i = k → k < k') ∧ (i ≠ k → k' = k) := fun hq {c' ks' ds'} ha => by
  obtain ⟨k', c2, ks2, h1, h2, h3, h4, h5⟩ := I.set.add (ds := t.ds) (by omega) I.ac hi hq
  rw [hpt, h1] at ha
  simp only [Prod.mk.injEq] at ha
  obtain ⟨-, rfl, rfl, -⟩ := ha
  exact ⟨k', h2, h3, h4, h5⟩
 have hacn : acS acc i n = false := by unfold acS; rw [I.ac, decide_eq_false (show ¬ n = i by omega)]; rfl
 have hdl : ∀ {dl' : List Nat}, (∃ add, dl' = dl ++ add) → dl'.take tl = dl.take tl ∧ tl ≤ dl'.length ∧ ∃ add, dl' = dl ++ add ∧ dl'.drop tl = dl.drop tl ++ add := fun {dl'} ⟨add, e⟩ => by
  subst e
  have := I.tle
  exact ⟨List.take_append_of_le_length this, by rw [List.length_append]; omega, add, rfl, List.drop_append_of_le_length this⟩
 have fin : ∀ {dl' : List Nat} {k' : Nat} {t' : IT}, acc i = false → SetOk T n (acS acc i) k' t'.c t'.ks → k ≤ k' → (i = k → k < k') → (i ≠ k → k' = k) → KeptOk n P ow T (acS acc i) t'.kept → MsI L M rk (dn n ow (acS acc i)) none (fun x => nget t'.s.next x) t'.s.waits dl' → (∃ add, dl' = dl ++ add ∧ t'.s.ready.map IM.w = t.s.ready.map IM.w ++ add.map fun g => (M g).w) → t'.held = t.held + (P i).z.length → ((t.held : Int) + (P i).z.length ≤ limitI A t (P i)) → Tin n L P M ow rk T A (acS acc i) k' dl' tl t' := fun {dl' k' t'} hq hs1 hk hk1 hk2 hkp hms hadd hh hl => by
  obtain ⟨add, e, hr⟩ := hadd
  obtain ⟨e1, e2, add', e3, e4⟩ := hdl ⟨add, e⟩
  have : add' = add := List.append_cancel_left (e3.symm.trans e)
  subst this
  have hH : t'.held + sumM M (dl'.take tl) = hs (fun i => (P i).z.length) (acS acc i) n := by
   rw [hs_add hi hq, e1, hh]
   have := I.H
   omega
  refine ⟨hs1, hacn, hkp, hms, e2, by rw [hr, I.rd, e4, List.map_append], hH, ?_⟩
  rw [e1]
  by_cases q : i = k
  ·
   refine Nat.le_trans (hs_le fun j hj h => ?_) I.AH
   simp only [Bool.and_eq_true, decide_eq_true_eq] at h ⊢
   have hlt := hk1 q
   have hne : ¬ j = i := by omega
   have h2 : acS acc i j = acc j := by unfold acS; rw [decide_eq_false hne, Bool.false_or]
   rw [h2] at h
   exact ⟨by omega, h.2⟩
  ·
   -- it came ahead: the room that is kept free was kept
   rw [hlim, if_neg q] at hl
   have hheld : hs (fun i => (P i).z.length) (fun j => acS acc i j && !decide (ow j ∈ dl.take tl)) n = t'.held := by
    have key : hs (fun i => (P i).z.length) (fun j => acS acc i j && !decide (ow j ∈ dl'.take tl)) n = t'.held := by
     have hsub : ∀ g ∈ dl'.take tl, g ∈ dl' := fun g hg => List.mem_of_mem_take hg
     have h1 := X.sum (l := dl'.take tl) (hms.d1.sublist (List.take_sublist _ _)) fun g hg => (hms.d2 g (hsub g hg)).1
     have h2 : hs (fun i => (P i).z.length) (acS acc i) n = hs (fun i => (P i).z.length) (fun j => (acS acc i j && !decide (ow j ∈ dl'.take tl)) || decide (ow j ∈ dl'.take tl)) n := hs_congr fun j hj => by
      rw [Bool.eq_iff_iff]
      simp only [Bool.or_eq_true, Bool.and_eq_true, Bool.not_eq_true', decide_eq_true_eq, decide_eq_false_iff_not]
      constructor
      ·
       intro h
       by_cases q : ow j ∈ dl'.take tl
       · exact .inr q
       · exact .inl ⟨h, q⟩
      ·
       rintro (h | h)
       · exact h.1
       · exact (hms.d2 _ (hsub _ h)).2 j hj rfl
     rw [hs_or, h1] at h2
     · omega
     ·
      intro j hj h
      simp only [Bool.and_eq_true, Bool.not_eq_true', decide_eq_false_iff_not] at h
      exact decide_eq_false h.2
    rw [e1] at key
    exact key
   have h3 : hs (fun i => (P i).z.length) (fun j => decide (k' ≤ j) && (acS acc i j && !decide (ow j ∈ dl.take tl))) n ≤ hs (fun i => (P i).z.length) (fun j => acS acc i j && !decide (ow j ∈ dl.take tl)) n := hs_le fun j hj h => by
    rw [Bool.and_eq_true] at h
    exact h.2
   omega
 have hDn : ∀ x, dn n ow (acS acc i) x ↔ dn n ow acc x ∨ (x = ow i ∧ dn n ow (acS acc i) (ow i)) := fun x => by
  by_cases q : x = ow i
  ·
   subst q
   refine ⟨fun h => .inr ⟨rfl, h⟩, fun h => h.elim (fun h j hj ho => ?_) (·.2)⟩
   unfold acS
   rw [h j hj ho, Bool.or_true]
  ·
   rw [dn_acS q]
   exact ⟨.inl, fun h => h.elim id (fun h => absurd h.1 q)⟩
 cases h with
 | arg h0 => omega
 | full h0 h1 h2 h3 =>
  refine ⟨acc, k, dl, I, rfl, Nat.le_refl _, (fun e => by cases e), fun q hl => ?_⟩
  rw [hlim, if_pos q] at h3
  omega
 | told h0 ha hc =>
  rw [hpt] at ha
  have hq : acc i = true := by
   cases hq : acc i with
   | true => rfl
   | false =>
    obtain ⟨k', c2, ks2, h1, -⟩ := I.set.add (ds := t.ds) (by omega) I.ac hi hq
    rw [h1] at ha
    simp only [Prod.mk.injEq] at ha
    exact absurd ha.1.symm hc
  rw [addN_has _ (by rw [I.set.has (by omega) hi]; exact hq)] at ha
  simp only [Prod.mk.injEq] at ha
  obtain ⟨-, rfl, rfl, -⟩ := ha
  refine ⟨acc, k, dl, ⟨I.set, I.ac, I.kp, I.ms, I.tle, I.rd, I.H, I.AH⟩, rfl, Nat.le_refl _, (fun e => by cases e), fun q => ?_⟩
  subst q
  have := I.set.no
  rw [hq] at this; cases this
 | stream h0 ha h3 hs' =>
  have := X.sid (ow i) (X.ow_lt i hi)
  rw [← X.psid i hi] at this
  omega
 | @part c' ks' ds' da' dc' pa pc h0 ha h3 hs' hp =>
  have hq := hset (code := 0) ha
  obtain ⟨k', s1, s2, s3, s4⟩ := hnew hq ha
  obtain ⟨p1, p2⟩ := put_sent X I.kp hi hq (p := { P i with a := pa, cap := pc }) ⟨_, _, rfl⟩
  have hnd : ¬ dn n ow (acS acc i) (ow i) := fun d => by
   obtain ⟨kp', e, -⟩ := p2 d
   rw [e] at hp; cases hp
  obtain ⟨e, K'⟩ := p1 hnd
  refine ⟨acS acc i, k', dl, fin hq s1 s2 s3 s4 (by simp only; rw [e]; exact K') ?_ ⟨[], by simp, by simp⟩ ?_ h3, rfl, s2, fun _ => s3, fun _ _ => rfl⟩
  ·
   have e2 : dn n ow (acS acc i) = dn n ow acc := funext fun x => propext ⟨fun d => ((hDn x).1 d).elim id (fun d => absurd d.2 hnd), fun d => (hDn x).2 (.inl d)⟩
   rw [e2]; exact I.ms
  ·
   unfold IT.held
   simp only
   rw [e, held_snoc]
   simp only
   omega
 | @whole c' ks' ds' da' dc' pa pc m ra' rc' s' h0 ha h3 hs' hp hm =>
  have hq := hset (code := 0) ha
  obtain ⟨k', s1, s2, s3, s4⟩ := hnew hq ha
  obtain ⟨p1, p2⟩ := put_sent X I.kp hi hq (p := { P i with a := pa, cap := pc }) ⟨_, _, rfl⟩
  have hd : dn n ow (acS acc i) (ow i) := by
   by_cases d : dn n ow (acS acc i) (ow i)
   · exact d
   · rw [(p1 d).1] at hp; cases hp
  obtain ⟨kp', e, K'⟩ := p2 hd
  have hheld := putN_heldE hp
  have hpm := hp
  rw [e] at hpm
  simp only [Option.some.injEq, Prod.mk.injEq] at hpm
  obtain ⟨q1, q2, q3, q4⟩ := hpm
  have hmw : m.w = (M (ow i)).w := by unfold IM.w; rw [← q1, ← q2, ← q3, ← q4]
  have hnD : ¬ dn n ow acc (ow i) := fun d => by rw [d i hi rfl] at hq; cases hq
  obtain ⟨hms, add, hr, I'⟩ := msg_sent X I.ms (D' := dn n ow (acS acc i)) (X.ow_lt i hi) hnD (fun x => (hDn x).trans ⟨fun h => h.imp id (·.1), fun h => h.imp id fun q => ⟨q, hd⟩⟩) hmw (X.pssn i hi) hm
  refine ⟨acS acc i, k', dl ++ add, fin hq s1 s2 s3 s4 (by simp only; rw [e]; exact K') I' ⟨add, rfl, hr⟩ ?_ h3, (hdl ⟨add, rfl⟩).1, s2, fun _ => s3, fun _ _ => rfl⟩
  have h5 := msg_len hms
  unfold IT.held
  simp only at hheld ⊢
  rw [h5]
  omega
theorem Tin.told (X : Snd n L P M ow st cn rk T S most) (I : Tin n L P M ow rk T A acc k dl tl t) {g : Nat} (hg : g < L) (h : ∀ g', g' ≤ g → dn n ow acc g') : g ∈ dl := by
 cases hu : (M g).un with
 | true => exact I.ms.d3 g hg hu (h g (Nat.le_refl _))
 | false =>
  rw [I.ms.d4 g hg hu]
  refine Nat.lt_of_not_le fun hle => ?_
  obtain ⟨g', a1, a2, a3, a4⟩ : ∃ g', g' ≤ g ∧ (M g').un = false ∧ (M g').sid = (M g).sid ∧ rk g' = nget t.s.next (M g).sid := by
   rcases Nat.eq_or_lt_of_le hle with q | q
   · exact ⟨g, Nat.le_refl _, hu, rfl, q.symm⟩
   ·
    obtain ⟨g', b1, b2, b3, b4⟩ := X.rk_dn g _ hg hu q
    exact ⟨g', by omega, b2, b3, b4⟩
  have hnot : g' ∉ dl := fun hm => by
   have : rk g' < nget t.s.next (M g').sid := (I.ms.d4 g' (by omega) a2).1 hm
   rw [a3] at this
   omega
  obtain ⟨m, hm⟩ := I.ms.w2 g' (by omega) a2 (h g' a1) hnot
  have : gl t.s.waits ((M g').sid, nget t.s.next (M g').sid) = none := I.ms.w4 (M g').sid (by simp)
  rw [a3, ← a4, ← a3, hm] at this
  cases this
theorem Tin.room (X : Snd n L P M ow st cn rk T S most) (hsp : A.sp ≤ A.rm) (hmost : most ≤ A.sp) (I : Tin n L P M ow rk T A acc k dl dl.length t) (hk : k < n) : t.held + (P k).z.length ≤ A.rm := by
 have h1 := I.held X
 have h2 := I.AH
 rw [List.take_length] at h1 h2
 have hgL := X.ow_lt k hk
 have h3 := X.len hgL
 have h4 := X.most _ hgL
 obtain ⟨c0, c1⟩ := X.cnp _ hgL
 have hkseg := (X.seg _ k hgL hk).1 rfl
 have e1 : hs (fun i => (P i).z.length) (fun i => acc i && !decide (ow i ∈ dl)) n ≤ hs (fun i => (P i).z.length) (fun i => (decide (k ≤ i) && (acc i && !decide (ow i ∈ dl))) || (decide (i < k) && decide (ow i = ow k))) n := hs_le fun i hi h => by
  rw [Bool.or_eq_true]
  rcases Nat.lt_or_ge i k with q | q
  ·
   refine .inr ?_
   simp only [Bool.and_eq_true, Bool.not_eq_true', decide_eq_true_eq, decide_eq_false_iff_not] at h ⊢
   refine ⟨q, ?_⟩
   have hiL := X.ow_lt i hi
   have hiseg := (X.seg _ i hiL hi).1 rfl
   rcases Nat.lt_trichotomy (ow i) (ow k) with y | y | y
   ·
    refine absurd (I.told X hiL fun g' hg' j hj ho => ?_) h.2
    have hjseg := (X.seg g' j (by omega) hj).1 ho
    have : st g' + cn g' ≤ st (ow k) := X.ord g' (ow k) (by omega) hgL
    exact I.set.low j (by omega)
   · exact y
   · have := X.ord _ _ y hiL; omega
  ·
   refine .inl ?_
   rw [Bool.and_eq_true]
   exact ⟨decide_eq_true q, h⟩
 rw [hs_or (fun i hi h => by
  simp only [Bool.and_eq_true, decide_eq_true_eq] at h
  rw [Bool.and_eq_false_iff]
  exact .inl (decide_eq_false (by omega)))] at e1
 have e2 : hs (fun i => (P i).z.length) (fun i => (decide (i < k) && decide (ow i = ow k)) || decide (i = k)) n ≤ hs (fun i => (P i).z.length) (fun i => decide (ow i = ow k)) n := hs_le fun i hi h => by
  simp only [Bool.or_eq_true, Bool.and_eq_true, decide_eq_true_eq] at h ⊢
  rcases h with h | h
  · exact h.2
  · rw [h]
 rw [hs_or (fun i hi h => by
  simp only [Bool.and_eq_true, decide_eq_true_eq] at h
  exact decide_eq_false (by omega)), hs_one hk, h3] at e2
 omega
theorem Tin.ends (X : Snd n L P M ow st cn rk T S most) (I : Tin n L P M ow rk T A acc n dl dl.length t) : t.held = 0 ∧ dl.length = L := by
 have hall : ∀ g, dn n ow acc g := fun g i hi _ => I.set.low i hi
 have hin : ∀ g, g < L → g ∈ dl := fun g hg => I.told X hg fun g' _ => hall g'
 have h1 := I.held X
 rw [List.take_length, hs_zero fun i hi => ?_] at h1
 ·
  refine ⟨h1.symm, Nat.le_antisymm ?_ ?_⟩
  ·
   have := nodup_le (l := dl) (k := List.range L) I.ms.d1 fun g hg => List.mem_range.2 (I.ms.d2 g hg).1
   simpa using this
  ·
   have := nodup_le (l := List.range L) (k := dl) List.nodup_range fun g hg => hin g (List.mem_range.1 hg)
   simpa using this
 ·
  rw [decide_eq_true (hin _ (X.ow_lt i hi))]
  simp
theorem Tin.take (I : Tin n L P M ow rk T A acc k dl tl t) {ra : Option Addr} {rc : Nat} : Tin n L P M ow rk T A acc k dl dl.length { t with ra := ra, rc := rc, s := { t.s with ready := [] } } := by
 have hr : lenI t.s.ready = sumM M (dl.drop tl) := by
  have := congrArg (fun l => (l.map fun m : IM => m.z.length).sum) I.rd
  simp only [List.map_map] at this
  unfold lenI sumM
  exact this
 have hsum : sumM M dl = sumM M (dl.take tl) + sumM M (dl.drop tl) := by rw [← sumM_app, List.take_append_drop]
 refine ⟨I.set, I.ac, I.kp, I.ms, Nat.le_refl _, by simp, ?_, ?_⟩
 ·
  have := I.H
  rw [List.take_length]
  unfold IT.held lenS at *
  simp only
  show heldN t.kept + (lenW t.s.waits + 0) + _ = _
  omega
 ·
  refine Nat.le_trans (hs_le fun i hi h => ?_) I.AH
  rw [List.take_length] at h
  simp only [Bool.and_eq_true, Bool.not_eq_true', decide_eq_true_eq, decide_eq_false_iff_not] at h ⊢
  exact ⟨h.1, h.2.1, fun hm => h.2.2 (List.mem_of_mem_take hm)⟩
end
end Go.Proofs.Ytccbmmnkiihkaaa
namespace Go.Proofs.Ytccbmmnkiihkaaa
set_option maxRecDepth 100000
def sameB (a b : IM) : Bool := decide (a.sid = b.sid) && (decide (a.un = b.un) && (decide (a.ppid = b.ppid) && decide (a.z = b.z)))
theorem sameB_iff (a b : IM) : sameB a b = true ↔ a.w = b.w := by
 obtain ⟨s, u, p, x, c, z⟩ := a
 obtain ⟨s', u', p', x', c', z'⟩ := b
 simp [sameB, IM.w]
theorem sameB_w {a b a' b' : IM} (h : a.w = a'.w) (h' : b.w = b'.w) : sameB a b = sameB a' b' := by
 rw [Bool.eq_iff_iff, sameB_iff, sameB_iff, h, h']
structure Gr (L : Nat) (M : Nat → IM) (D : List Nat) (j : Nat) (uf : Nat → Bool) (pl : List (Nat × Nat)) : Prop where
 a : ∀ g, g < L → (M g).un = false → (uf g = true ↔ g ∈ D.take j)
 b : ∀ x, hs (fun _ => 1) (fun g => uf g && ((M g).un && sameB (M g) x)) L = hs (fun _ => 1) (fun g => decide (g ∈ D.take j) && ((M g).un && sameB (M g) x)) L
 c : ∀ s, nget pl s = 0 ∨ ∃ g, g ∈ D.take j ∧ (M g).un = false ∧ (M g).sid = s ∧ nget pl s = g
structure Dl (L : Nat) (M : Nat → IM) (D : List Nat) : Prop where
 nd : D.Nodup
 len : D.length = L
 lt : ∀ g ∈ D, g < L
 po : D.Pairwise fun a b => (M a).un = false → (M b).un = false → (M a).sid = (M b).sid → a < b
section
variable {L j : Nat} {M : Nat → IM} {D : List Nat} {uf : Nat → Bool} {pl : List (Nat × Nat)}
theorem Dl.all (d : Dl L M D) {g : Nat} (hg : g < L) : g ∈ D := by
 by_cases h : g ∈ D
 · exact h
 ·
  have := nodup_le (l := g :: D) (k := List.range L) (List.nodup_cons.2 ⟨h, d.nd⟩) fun x hx => by
   rcases List.mem_cons.1 hx with rfl | hx
   · exact List.mem_range.2 hg
   · exact List.mem_range.2 (d.lt x hx)
  simp only [List.length_cons, List.length_range] at this
  have := d.len
  omega
theorem Gr.start : Gr L M D 0 (fun _ => false) [] := ⟨fun g _ _ => by simp, fun x => hs_congr fun i _ => by simp, fun s => .inl rfl⟩
theorem Dl.take_succ (d : Dl L M D) (hj : j < D.length) (x : Nat) : x ∈ D.take (j + 1) ↔ x ∈ D.take j ∨ x = D[j] := by
 rw [List.take_add_one, List.getElem?_eq_getElem hj, List.mem_append]
 show _ ∨ x ∈ [D[j]] ↔ _
 rw [List.mem_singleton]
theorem Dl.not_take (d : Dl L M D) (hj : j < D.length) : D[j] ∉ D.take j := fun h => by
 obtain ⟨i, hi, e⟩ := List.getElem_of_mem h
 rw [List.length_take] at hi
 rw [List.getElem_take] at e
 exact List.pairwise_iff_getElem.1 d.nd i j (by omega) hj (by omega) e
theorem Dl.before (d : Dl L M D) (hj : j < D.length) {i : Nat} (hi : i < D[j]) (u : (M i).un = false) (u' : (M D[j]).un = false) (hs : (M i).sid = (M D[j]).sid) : i ∈ D.take j := by
 have hL := d.lt _ (List.getElem_mem hj)
 obtain ⟨x, hx, e⟩ := List.getElem_of_mem (d.all (show i < L by omega))
 rcases Nat.lt_trichotomy x j with q | q | q
 ·
  have h1 : x < (D.take j).length := by rw [List.length_take]; omega
  have h2 : (D.take j)[x] = i := by rw [List.getElem_take]; exact e
  rw [← h2]
  exact List.getElem_mem _
 · subst q; omega
 ·
  have := List.pairwise_iff_getElem.1 d.po j x hj hx q u' (by rw [e]; exact u) (by rw [e]; exact hs.symm)
  omega
def look (M : Nat → IM) (uf : Nat → Bool) (pl : List (Nat × Nat)) (m : IM) (i : Nat) : Bool := !uf i && (sameB m (M i) && !(!m.un && decide (i < nget pl m.sid)))
theorem Gr.ord (d : Dl L M D) (r : Gr L M D j uf pl) (hj : j < D.length) (u : (M D[j]).un = false) : nget pl (M D[j]).sid ≤ D[j] := by
 rcases r.c (M D[j]).sid with h | ⟨g, h1, h2, h3, h4⟩
 · omega
 ·
  obtain ⟨x, hx, e⟩ := List.getElem_of_mem h1
  rw [List.length_take] at hx
  rw [List.getElem_take] at e
  have := List.pairwise_iff_getElem.1 d.po x j (by omega) hj (by omega) (by rw [e]; exact h2) u (by rw [e]; exact h3)
  omega
theorem Gr.find (d : Dl L M D) (r : Gr L M D j uf pl) (hj : j < D.length) {m : IM} (hm : m.w = (M D[j]).w) : ∃ i, i < L ∧ look M uf pl m i = true := by
 obtain ⟨e1, e2, e3, e4⟩ := iw_len hm
 have hL := d.lt _ (List.getElem_mem hj)
 cases hu : (M D[j]).un with
 | false =>
  refine ⟨D[j], hL, ?_⟩
  have h1 : uf D[j] = false := by
   cases h : uf D[j] with
   | false => rfl
   | true => exact absurd ((r.a _ hL hu).1 h) (d.not_take hj)
  have h2 := r.ord d hj hu
  unfold look
  rw [h1, (sameB_iff _ _).2 hm, e1, e2, hu, decide_eq_false (by omega)]; rfl
 | true =>
  by_cases h : ∃ i, i < L ∧ uf i = false ∧ sameB m (M i) = true
  ·
   obtain ⟨i, h1, h2, h3⟩ := h
   refine ⟨i, h1, ?_⟩
   unfold look
   rw [h2, h3, e2, hu]; rfl
  ·
   exfalso
   have hb := r.b m
   have h1 : hs (fun _ => 1) (fun g => uf g && ((M g).un && sameB (M g) m)) L = hs (fun _ => 1) (fun g => (M g).un && sameB (M g) m) L := hs_congr fun i hi => by
    cases hq : uf i with
    | true => simp
    | false =>
     have : sameB (M i) m = false := by
      cases hs' : sameB (M i) m with
      | false => rfl
      | true => exact absurd ⟨i, hi, hq, (sameB_iff _ _).2 ((sameB_iff _ _).1 hs').symm⟩ h
     simp [this]
   have h2 := hs_add (w := fun _ => 1) (f := fun g => decide (g ∈ D.take j) && ((M g).un && sameB (M g) m)) hL (by rw [decide_eq_false (d.not_take hj)]; rfl)
   have h3 : hs (fun _ => 1) (acS (fun g => decide (g ∈ D.take j) && ((M g).un && sameB (M g) m)) D[j]) L ≤ hs (fun _ => 1) (fun g => (M g).un && sameB (M g) m) L := hs_le fun i hi hq => by
    unfold acS at hq
    rw [Bool.or_eq_true] at hq
    rcases hq with hq | hq
    · rw [of_decide_eq_true hq, hu, (sameB_iff _ _).2 hm.symm]; rfl
    ·
     rw [Bool.and_eq_true] at hq
     exact hq.2
   omega
theorem Gr.self (d : Dl L M D) (r : Gr L M D j uf pl) (hj : j < D.length) {m : IM} (hm : m.w = (M D[j]).w) (u : m.un = false) {i : Nat} (hi : i < L) (h : look M uf pl m i = true) (hmin : ∀ i', i' < i → look M uf pl m i' = false) : i = D[j] := by
 obtain ⟨e1, e2, e3, e4⟩ := iw_len hm
 have hL := d.lt _ (List.getElem_mem hj)
 unfold look at h
 simp only [Bool.and_eq_true, Bool.not_eq_true'] at h
 obtain ⟨h1, h2, h3⟩ := h
 obtain ⟨f1, f2, f3, f4⟩ := iw_len ((sameB_iff _ _).1 h2)
 have hu : (M D[j]).un = false := by rw [← e2]; exact u
 have hui : (M i).un = false := by rw [← f2]; exact u
 rcases Nat.lt_trichotomy i D[j] with q | q | q
 ·
  have := (r.a i hi hui).2 (d.before hj q hui hu (by rw [← f1, e1]))
  rw [h1] at this; cases this
 · exact q
 ·
  have := hmin D[j] q
  have g1 : uf D[j] = false := by
   cases h : uf D[j] with
   | false => rfl
   | true => exact absurd ((r.a _ hL hu).1 h) (d.not_take hj)
  have g2 := r.ord d hj hu
  unfold look at this
  rw [g1, (sameB_iff _ _).2 hm, e1, u, decide_eq_false (by omega)] at this
  cases this
theorem Gr.next (d : Dl L M D) (r : Gr L M D j uf pl) (hj : j < D.length) {m : IM} (hm : m.w = (M D[j]).w) {i : Nat} (hi : i < L) (h : look M uf pl m i = true) (hs' : m.un = false → i = D[j]) : Gr L M D (j + 1) (acS uf i) (if m.un = true then pl else nput pl m.sid i) := by
 obtain ⟨e1, e2, e3, e4⟩ := iw_len hm
 have hL := d.lt _ (List.getElem_mem hj)
 have hts := d.take_succ hj
 unfold look at h
 simp only [Bool.and_eq_true, Bool.not_eq_true'] at h
 obtain ⟨h1, h2, h3⟩ := h
 have hwi := (sameB_iff _ _).1 h2
 obtain ⟨f1, f2, f3, f4⟩ := iw_len hwi
 refine ⟨fun g hg ug => ?_, fun x => ?_, fun s => ?_⟩
 ·
  rw [hts]
  unfold acS
  rw [Bool.or_eq_true, decide_eq_true_eq, r.a g hg ug, or_comm]
  refine or_congr Iff.rfl ?_
  cases hu : m.un with
  | false => rw [hs' hu]
  | true =>
   constructor
   · intro e; rw [e, ← f2, hu] at ug; cases ug
   · intro e; rw [e, ← e2, hu] at ug; cases ug
 ·
  have hq : ((M i).un && sameB (M i) x) = ((M D[j]).un && sameB (M D[j]) x) := by
   rw [← f2, ← e2, sameB_w hwi.symm rfl, sameB_w hm.symm rfl]
  cases hx : ((M i).un && sameB (M i) x) with
  | true =>
   have l1 : hs (fun _ => 1) (fun g => acS uf i g && ((M g).un && sameB (M g) x)) L = hs (fun _ => 1) (acS (fun g => uf g && ((M g).un && sameB (M g) x)) i) L := hs_congr fun g _ => by
    unfold acS
    by_cases e : g = i
    · subst e; rw [hx]; simp
    · rw [decide_eq_false e]; rfl
   have l2 : hs (fun _ => 1) (fun g => decide (g ∈ D.take (j + 1)) && ((M g).un && sameB (M g) x)) L = hs (fun _ => 1) (acS (fun g => decide (g ∈ D.take j) && ((M g).un && sameB (M g) x)) D[j]) L := hs_congr fun g _ => by
    unfold acS
    rw [show decide (g ∈ D.take (j + 1)) = (decide (g ∈ D.take j) || decide (g = D[j])) by rw [Bool.eq_iff_iff, Bool.or_eq_true, decide_eq_true_eq, decide_eq_true_eq, decide_eq_true_eq]; exact hts g]
    by_cases e : g = D[j]
    · subst e; rw [← hq, hx]; simp
    · rw [decide_eq_false e]; simp
   rw [l1, l2, hs_add hi (by rw [h1]; rfl), hs_add hL (by rw [decide_eq_false (d.not_take hj)]; rfl), r.b x]
  | false =>
   have l1 : hs (fun _ => 1) (fun g => acS uf i g && ((M g).un && sameB (M g) x)) L = hs (fun _ => 1) (fun g => uf g && ((M g).un && sameB (M g) x)) L := hs_congr fun g _ => by
    unfold acS
    by_cases e : g = i
    · subst e; rw [hx]; simp
    · rw [decide_eq_false e]; rfl
   have l2 : hs (fun _ => 1) (fun g => decide (g ∈ D.take (j + 1)) && ((M g).un && sameB (M g) x)) L = hs (fun _ => 1) (fun g => decide (g ∈ D.take j) && ((M g).un && sameB (M g) x)) L := hs_congr fun g _ => by
    rw [show decide (g ∈ D.take (j + 1)) = (decide (g ∈ D.take j) || decide (g = D[j])) by rw [Bool.eq_iff_iff, Bool.or_eq_true, decide_eq_true_eq, decide_eq_true_eq, decide_eq_true_eq]; exact hts g]
    by_cases e : g = D[j]
    · subst e; rw [← hq, hx]; simp
    · rw [decide_eq_false e]; simp
   rw [l1, l2, r.b x]
 ·
  have old : (nget pl s = 0 ∨ ∃ g, g ∈ D.take (j + 1) ∧ (M g).un = false ∧ (M g).sid = s ∧ nget pl s = g) := by
   rcases r.c s with h | ⟨g, a1, a2, a3, a4⟩
   · exact .inl h
   · exact .inr ⟨g, (hts g).2 (.inl a1), a2, a3, a4⟩
  cases hu : m.un with
  | true => rw [if_pos rfl]; exact old
  | false =>
   rw [if_neg (by decide), nget_put]
   by_cases q : s = m.sid
   ·
    rw [if_pos q]
    have hid := hs' hu
    exact .inr ⟨i, (hts i).2 (.inr hid), by rw [← f2]; exact hu, by rw [q, ← f1], rfl⟩
   · rw [if_neg q]; exact old
theorem Gr.full (d : Dl L M D) (r : Gr L M D j uf pl) (hj : j < D.length) {m : IM} (hm : m.w = (M D[j]).w) (u : m.un = false) {i : Nat} (hi : i < D[j]) (u' : (M i).un = false) (hs' : (M i).sid = m.sid) : uf i = true := by
 obtain ⟨e1, e2, e3, e4⟩ := iw_len hm
 have hL := d.lt _ (List.getElem_mem hj)
 exact (r.a i (by omega) u').2 (d.before hj hi u' (by rw [← e2]; exact u) (by rw [hs', e1]))
end
end Go.Proofs.Ytccbmmnkiihkaaa
namespace Go.Proofs.Ytccbmmnkiihkaaa
set_option maxRecDepth 100000
attribute [local irreducible] Go GoR GoL
theorem IOk.by_ {h h' : AHeap} {xb r mr n0 : Nat} {A : IA} {t : IT} (k : IOk h xb A r mr t n0) {wr : List Nat} (kk : Keeps wr h h') (ap : ∀ j ∈ wr, j ∉ wrI xb A r mr t) (ut : ∀ j ∈ wr, tyOf h j ≠ some 5) : IOk h' xb A r mr t n0 := by
 have ap' : ∀ j ∈ wrI xb A r mr t, j ∉ wr := fun j hj hm => ap j hm hj
 have u8 : ∀ {a : Option Addr} {len cap : Nat} {cs : List Value}, Sv h 5 1 a len cap cs → ∀ i ∈ blk a, i ∉ wr := fun d i hi hm => ut i hm (sv_ty d i hi)
 exact ⟨k.X.kept kk (fun j hj => ap' j (by unfold wrI; exact List.mem_append_left _ (List.mem_append_left _ hj))) u8, k.G.kept kk (fun j hj => ap' j (by unfold wrI; exact List.mem_append_left _ (List.mem_append_right _ hj))), k.J.kept kk (ap' _ (by unfold wrI; simp)) (ap' _ (by unfold wrI; simp)) (fun p hp => u8 (k.J.dv p hp)), k.ne⟩
structure TOk (h H : AHeap) (xv tv xb : Nat) (A : IA) (r mr : Nat) (t : IT) (ta : Option Addr) (tc : Nat) (told : List IM) : Prop where
 k : IOk H xb A r mr t h.n
 gx : H.get xv = some (.cells [.pointer (some ⟨xb, 0, none⟩)] 27)
 gt : H.get tv = some (.cells [.slice ta told.length tc] 59)
 row : Sv H 39 4 ta told.length tc (ics told)
 dv : ∀ m ∈ told, Sv H 5 1 m.a m.z.length m.cap (m.z.map bv)
 ap : ∀ j ∈ blk ta, j ∉ blk t.ra
 own : Own h.n ta
 xv0 : h.n ≤ xv
 tv0 : h.n ≤ tv
 old : Same h H
section
variable {h H H' : AHeap} {xv tv xb r mr tc : Nat} {A : IA} {t : IT} {ta : Option Addr} {told : List IM}
theorem TOk.same (o : TOk h H xv tv xb A r mr t ta tc told) (s : Same H H') : TOk h H' xv tv xb A r mr t ta tc told := ⟨o.k.same s, s.get o.gx, s.get o.gt, o.row.same s, fun m hm => (o.dv m hm).same s, o.ap, o.own, o.xv0, o.tv0, o.old.trans s⟩
theorem TOk.nI (o : TOk h H xv tv xb A r mr t ta tc told) : xv ∉ wrI xb A r mr t ∧ tv ∉ wrI xb A r mr t ∧ ∀ j ∈ blk ta, j ∉ wrI xb A r mr t := by
 have d : ∀ {j : Nat} {c : List Value} {ty : TypeId}, H.get j = some (.cells c ty) → (some ty : Option TypeId) ∉ ([none, some 84, some 104, some 107] : List (Option TypeId)) → ty ≠ 39 → ty ≠ 23 → j ∉ wrI xb A r mr t := fun {j c ty} g h1 h2 h3 hm => by
  have e := tyOf_cells g
  rcases o.k.kinds j hm with e' | ⟨e', -⟩ | ⟨e', -⟩
  · rw [e] at e'; exact h1 e'
  · rw [e] at e'; cases e'; exact h2 rfl
  · rw [e] at e'; cases e'; exact h3 rfl
 refine ⟨d o.gx (by decide) (by decide) (by decide), d o.gt (by decide) (by decide) (by decide), fun j hj hm => ?_⟩
 have e := sv_ty o.row j hj
 rcases o.k.kinds j hm with e' | ⟨e', z⟩ | ⟨e', -⟩
 · rw [e] at e'; exact absurd e' (by decide)
 · exact o.ap j hj z
 · rw [e] at e'; exact absurd e' (by decide)
theorem TOk.lts (o : TOk h H xv tv xb A r mr t ta tc told) : xv < H.n ∧ tv < H.n ∧ ∀ j ∈ blk ta, j < H.n := ⟨AHeap.lt o.gx, AHeap.lt o.gt, o.row.lt⟩
theorem TOk.ne (o : TOk h H xv tv xb A r mr t ta tc told) : xv ≠ tv ∧ tv ∉ blk ta ∧ xv ∉ blk ta := by
 refine ⟨fun e => ?_, sv_out o.row o.gt (fun c e => by cases e), sv_out o.row o.gx (fun c e => by cases e)⟩
 have := o.gx
 rw [e, o.gt] at this
 cases this
theorem TOk.setI (o : TOk h H xv tv xb A r mr t ta tc told) {t' : IT} {wr : List Nat} (hw : ∀ j ∈ wr, j ∈ wrI xb A r mr t) (kk : Keeps wr H H') (k' : IOk H' xb A r mr t' h.n) (ra : ∀ i ∈ blk t'.ra, i ∈ blk t.ra ∨ H.n ≤ i) : TOk h H' xv tv xb A r mr t' ta tc told := by
 obtain ⟨n1, n2, n3⟩ := o.nI
 refine ⟨k', kk.get o.gx (fun hm => n1 (hw _ hm)), kk.get o.gt (fun hm => n2 (hw _ hm)), o.row.keeps kk (fun i hi hm => n3 i hi (hw i hm)), fun m hm => (o.dv m hm).keeps kk (fun i hi hm' => o.k.u8 (o.dv m hm) i hi (hw i hm')), fun j hj hm => ?_, o.own, o.xv0, o.tv0, o.old.own kk (fun j hj => o.k.ownW j (hw j hj))⟩
 rcases ra j hm with z | z
 · exact o.ap j hj z
 · have := o.row.lt j hj; omega
theorem TOk.out (o : TOk h H xv tv xb A r mr t ta tc told) {wr : List Nat} (kk : Keeps wr H H') (hn : ∀ j ∈ wr, h.n ≤ j) (ap : ∀ j ∈ wr, j ∉ wrI xb A r mr t ∧ j ≠ xv ∧ j ≠ tv ∧ j ∉ blk ta ∧ tyOf H j ≠ some 5) : TOk h H' xv tv xb A r mr t ta tc told :=
 ⟨o.k.by_ kk (fun j hj => (ap j hj).1) (fun j hj => (ap j hj).2.2.2.2), kk.get o.gx (fun hm => (ap _ hm).2.1 rfl), kk.get o.gt (fun hm => (ap _ hm).2.2.1 rfl), o.row.keeps kk (fun i hi hm => (ap i hm).2.2.2.1 hi), fun m hm => (o.dv m hm).keeps kk (fun i hi hm' => (ap i hm').2.2.2.2 (sv_ty (o.dv m hm) i hi)), o.ap, o.own, o.xv0, o.tv0, o.old.own kk hn⟩
theorem TOk.tell (o : TOk h H xv tv xb A r mr t ta tc told) {m : IM} (dm : Sv H 5 1 m.a m.z.length m.cap (m.z.map bv)) {b : Option Addr} {c : Nat} (kk : Keeps (tv :: blk ta) H H') (gt' : H'.get tv = some (.cells [.slice b (told.length + 1) c] 59)) (row' : Sv H' 39 4 b (told.length + 1) c (ics told ++ iC m)) (hb : ∀ i ∈ blk b, i ∈ blk ta ∨ H.n ≤ i) : TOk h H' xv tv xb A r mr t b c (told ++ [m]) := by
 obtain ⟨n1, n2, n3⟩ := o.nI
 obtain ⟨ne1, ne2, ne3⟩ := o.ne
 have hu : ∀ {a : Option Addr} {len cap : Nat} {cs : List Value}, Sv H 5 1 a len cap cs → ∀ i ∈ blk a, i ∉ tv :: blk ta := fun d i hi hm => by
  rcases List.mem_cons.1 hm with rfl | z
  · exact sv_out d o.gt (fun c e => by cases e) hi
  · exact sv_sv d o.row (by decide) i hi z
 have hho := o.old.1
 refine ⟨o.k.by_ kk (fun j hj => ?_) (fun j hj => ?_), kk.get o.gx (fun hm => ?_), by rw [List.length_append]; exact gt', by rw [List.length_append, ics_snoc]; exact row', fun q hq => ?_, fun j hj hm => ?_, fun j hj => ?_, o.xv0, o.tv0, o.old.own kk (fun j hj => ?_)⟩
 ·
  rcases List.mem_cons.1 hj with rfl | z
  · exact n2
  · exact n3 j z
 ·
  rcases List.mem_cons.1 hj with rfl | z
  · rw [tyOf_cells o.gt]; decide
  · rw [sv_ty o.row j z]; decide
 ·
  rcases List.mem_cons.1 hm with z | z
  · exact ne1 z
  · exact ne3 z
 ·
  rcases List.mem_append.1 hq with hq | hq
  · exact (o.dv q hq).keeps kk (hu (o.dv q hq))
  · rw [List.mem_singleton.1 hq]; exact dm.keeps kk (hu dm)
 ·
  rcases hb j hj with z | z
  · exact o.ap j z hm
  · have := o.k.ltW j (by simp [wrI, hm]); omega
 ·
  rcases hb j hj with z | z
  · exact o.own j z
  · omega
 ·
  rcases List.mem_cons.1 hj with rfl | z
  · exact o.tv0
  · exact o.own j z
end
set_option maxHeartbeats 32000000 in
theorem take_spec (h : AHeap) (xv tv xb : Nat) (A : IA) (r mr : Nat) (t : IT) (ta : Option Addr) (tc : Nat) (told : List IM) (H : AHeap) (o : TOk h H xv tv xb A r mr t ta tc told) (hl : told.length + t.s.ready.length ≤ 100000) (hb : t.held ≤ 1000000000) : CallS Try.prog ([xb, tv] ++ blk ta) 26 [.pointer (some ⟨xv, 0, none⟩), .pointer (some ⟨tv, 0, none⟩)] H fun v H' => ∃ ra' rc' ta' tc', TOk h H' xv tv xb A r mr { t with ra := ra', rc := rc', s := { t.s with ready := [] } } ta' tc' (told ++ t.s.ready) := by
 have gx := o.gx
 have hxl := AHeap.lt gx
 have hHn := o.old.1
 have hrv := irecv_specO xb A r mr t h.n H hHn o.k (by omega) hb
 (refine CallS.of2 Try.func26 rfl Try.ntmps26 Try.results26 rfl ?_)
 (refine Go.run (g:=?_))
 refine GoR.callW rfl rfl rfl rfl rfl rfl rfl (((hrv).argA).mono ?_)
 rintro v H5 hv kk
 refine ⟨fun j hj => .inl (by simp only [List.mem_singleton] at hj; simp [hj]), ?_⟩
 have n5 := kk.1
 obtain ⟨m, B, t', rfl, o5, m5, hm5⟩ : ∃ (m : IM) (B : Bool) (t' : IT), v = .tuple #[.agg #[.int .u16 (m.sid : Nat), .bool m.un, .int .u32 (m.ppid : Nat), .slice m.a m.z.length m.cap], .bool B] ∧ TOk h H5 xv tv xb A r mr t' ta tc told ∧ Sv H5 5 1 m.a m.z.length m.cap (m.z.map bv) ∧ t'.held ≤ 1000000000 ∧ (∃ ra rc rd, t' = { t with ra := ra, rc := rc, s := { t.s with ready := rd } } ∧ t.s.ready = (if B = true then [m] else []) ++ rd ∧ (B = false → rd = [])) := by
  have hx1 : ∀ j ∈ [xb], j ∈ wrI xb A r mr t := fun j hj => by rw [List.mem_singleton.1 hj]; simp [wrI]
  rcases hv with ⟨hre, rfl, k5⟩ | ⟨m, rest, ra', rc', hre, rfl, k5, dm, -, hra⟩
  ·
   refine ⟨⟨0, false, 0, none, 0, []⟩, false, t, rfl, o.setI hx1 kk k5 (fun i hi => .inl hi), Sv.nil, hb, t.ra, t.rc, [], ?_, hre, fun _ => rfl⟩
   rw [← hre]
  ·
   refine ⟨m, true, _, rfl, o.setI hx1 kk k5 (fun i hi => .inl (hra i hi)), dm, ?_, ra', rc', rest, rfl, hre, fun e => by cases e⟩
   have : lenI t.s.ready = m.z.length + lenI rest := by rw [hre]; simp [lenI]
   unfold IT.held lenS at hb ⊢
   simp only
   omega
 clear hv hrv gx
 have gx5 := o5.gx
 (refine Go.run (g:=?_))
 refine Go.name ?_
 intro H6 e6
 have s6 : Same H5 H6 := by subst e6; exact ((Same.refl H5).push _).put (Nat.le_refl _) _
 have g6 : H6.get H5.n = some (.cells [.int .u16 (m.sid : Nat), .bool m.un, .int .u32 (m.ppid : Nat), .slice m.a m.z.length m.cap] 39) := by subst e6; exact hg_
 have n6 : H6.n = H5.n + 1 := by subst e6; rfl
 clear e6
 obtain ⟨hh5, ra1, rc1, rd1, et5, hr5, hB5⟩ := hm5
 refine Go.loop (α := Bool × IM × Nat × List IM × List IM × IT × Option Addr × Nat × AHeap) (fun x => [(3, .bool x.1), (2, .pointer (some ⟨x.2.2.1, 0, none⟩)), (0, .pointer (some ⟨xv, 0, none⟩)), (1, .pointer (some ⟨tv, 0, none⟩))]) (fun _ => []) (fun x => x.2.2.2.2.2.2.2.2) (fun x => TOk h x.2.2.2.2.2.2.2.2 xv tv xb A r mr x.2.2.2.2.2.1 x.2.2.2.2.2.2.1 x.2.2.2.2.2.2.2.1 x.2.2.2.1 ∧ x.2.2.2.2.2.2.2.2.get x.2.2.1 = some (.cells [.int .u16 (x.2.1.sid : Nat), .bool x.2.1.un, .int .u32 (x.2.1.ppid : Nat), .slice x.2.1.a x.2.1.z.length x.2.1.cap] 39) ∧ Sv x.2.2.2.2.2.2.2.2 5 1 x.2.1.a x.2.1.z.length x.2.1.cap (x.2.1.z.map bv) ∧ x.2.2.2.2.2.1.held ≤ 1000000000 ∧ (∃ ra rc, x.2.2.2.2.2.1 = { t with ra := ra, rc := rc, s := { t.s with ready := x.2.2.2.2.1 } }) ∧ (x.1 = false → x.2.2.2.2.1 = []) ∧ told ++ t.s.ready = x.2.2.2.1 ++ ((if x.1 = true then [x.2.1] else []) ++ x.2.2.2.2.1) ∧ H5.n ≤ x.2.2.2.2.2.2.2.2.n ∧ (∀ i ∈ blk x.2.2.2.2.2.2.1, i ∈ blk ta ∨ H.n ≤ i) ∧ x.2.2.1 ∉ blk x.2.2.2.2.2.2.1) (fun x => x.2.2.2.2.1.length + (if x.1 = true then 1 else 0)) (B, m, H5.n, told, rd1, t', ta, tc, H6) ⟨o5.same s6, g6, m5.same s6, hh5, ⟨ra1, rc1, et5⟩, hB5, by rw [hr5], by simp only; omega, fun i hi => .inl hi, fun hm => Nat.lt_irrefl _ (o5.row.lt _ hm)⟩ ⟨rfl, rfl, rfl, rfl, trivial⟩ rfl rfl ?_
 clear o5 m5 hh5 et5 hr5 hB5 gx5 g6 kk s6
 rintro ⟨B, m, mb, told', rd, t2, ta2, tc2, H7⟩ ⟨o7, g7, d7, hh7, ⟨ra2, rc2, et7⟩, hB7, hr7, hn7, hta7, hmb7⟩
 simp only at o7 g7 d7 hh7 et7 hB7 hr7 hn7 hta7 hmb7 ⊢
 cases B with
 | false =>
  obtain rfl := hB7 rfl
  (refine Go.run (g:=?_))
  (first|refine Go.finA rfl ?_|refine Go.finB rfl (hq:=?_))
  rw [if_neg (by decide)] at hr7
  simp only [List.append_nil, List.nil_append] at hr7
  rw [hr7]
  rw [et7] at o7
  exact ⟨_, _, _, _, o7⟩
 | true =>
 rw [if_pos rfl] at hr7
 have hlen7 := congrArg List.length hr7
 simp only [List.length_append, List.length_singleton] at hlen7
 have gt7 := o7.gt
 have row7 := o7.row
 have gx7 := o7.gx
 obtain ⟨x1, x2, x3⟩ := o7.lts
 obtain ⟨ne1, ne2, ne3⟩ := o7.ne
 (refine Go.run (g:=?_))
 refine GoR.buildRo (c := iC m) rfl rfl rfl rfl rfl (by decide) (by rfl) (by rfl) ?_
 intro b8 H8 hb8 rb8 ob8 s8 n8
 have o8 := o7.same s8
 have d8 := d7.same s8
 have hw8 : ∀ i ∈ blk ta2, i ∈ [xb, tv] ++ blk ta ∨ H.n ≤ i := fun i hi => by
  rcases hta7 i hi with z | z
  · exact .inl (List.mem_append_right _ z)
  · exact .inr z
 refine GoR.appendV rfl rfl rfl rfl rfl rfl o8.row hb8 hw8 (by omega) (by omega) (by rfl) ?_
 intro b9 c9 H9 hs9 k9 o9
 have n9 := k9.1
 have gt9 := k9.get o8.gt ne2
 refine GoR.store rfl rfl rfl rfl rfl gt9 rfl rfl (by simp [cellsL]) rfl rfl (.inl (by simp)) ?_
 refine GoR.name ?_
 intro H10 e10
 have k10 : Keeps (tv :: blk ta2) H8 H10 := by
  subst e10
  refine Keeps.put ⟨k9.1, fun i hi hn => k9.2 i hi (fun hm => hn (List.mem_cons_of_mem _ hm))⟩ (List.mem_cons_self ..) _
 have k10' : Keeps [tv] H9 H10 := by subst e10; exact (Keeps.rfl _ _).put (by simp) _
 have gt10 : H10.get tv = some (.cells [.slice b9 (told'.length + 1) c9] 59) := by subst e10; exact get_put_self gt9
 have n10 : H10.n = H9.n := by subst e10; rfl
 clear e10
 have hs10 := hs9.keeps k10' (fun i hi hm => by
  rw [List.mem_singleton.1 hm] at hi
  exact sv_out hs9 gt9 (fun c e => by cases e) hi)
 have g10 := k10.get (s8.get g7) (fun hm => by
  rcases List.mem_cons.1 hm with z | z
  · rw [z, gt7] at g7; cases g7
  · exact hmb7 z)
 have o10 := o8.tell d8 k10 gt10 hs10 o9
 have d10 := d8.keeps k10 (fun i hi hm => by
  rcases List.mem_cons.1 hm with rfl | z
  · exact sv_out d8 o8.gt (fun c e => by cases e) hi
  · exact sv_sv d8 o8.row (by decide) i hi z)
 have hta10 : ∀ i ∈ blk b9, i ∈ blk ta ∨ H.n ≤ i := fun i hi => by
  rcases o9 i hi with z | z
  · exact hta7 i z
  · exact .inr (by omega)
 have hb9 := o10.row.lt
 have hw10 := o10.k.ltW
 clear k10 k10' hs9 hs10 gt9 gt10 k9 o9 o8 d8 row7 gt7 gx7 g7 o7 d7
 (refine Go.run (g:=?_))
 refine GoR.name ?_
 intro H11 e11
 have s11 : Same H10 H11 := by subst e11; exact ((Same.refl H10).push _).put (Nat.le_refl _) _
 have g11 : H11.get H10.n = some (.cells [.int .u16 (m.sid : Nat), .bool m.un, .int .u32 (m.ppid : Nat), .slice m.a m.z.length m.cap] 39) := by subst e11; exact hg_
 have n11 : H11.n = H10.n + 1 := by subst e11; rfl
 clear e11
 have o11 := o10.same s11
 have hrl : t2.s.ready = rd := by rw [et7]
 have hrv := irecv_specO xb A r mr t2 h.n H11 o11.old.1 o11.k (by rw [hrl]; omega) hh7
 have gx11 := o11.gx
 clear o10 d10 g10 s11
 (refine Go.run (g:=?_))
 refine GoR.callW rfl rfl rfl rfl rfl rfl rfl (((hrv).argA).mono ?_)
 rintro v H12 hv kk
 have hxl : xb < H11.n := AHeap.lt o11.k.X.xc
 refine ⟨fun j hj => .inl (by simp only [List.mem_singleton] at hj; simp [hj]), ?_⟩
 have n12 := kk.1
 have hw12 := o11.k.ltW
 obtain ⟨m', B', t', rfl, o12, m12, hm12⟩ : ∃ (m' : IM) (B' : Bool) (t' : IT), v = .tuple #[.agg #[.int .u16 (m'.sid : Nat), .bool m'.un, .int .u32 (m'.ppid : Nat), .slice m'.a m'.z.length m'.cap], .bool B'] ∧ TOk h H12 xv tv xb A r mr t' b9 c9 (told' ++ [m]) ∧ Sv H12 5 1 m'.a m'.z.length m'.cap (m'.z.map bv) ∧ t'.held ≤ 1000000000 ∧ (∃ ra rc rd', t' = { t with ra := ra, rc := rc, s := { t.s with ready := rd' } } ∧ rd = (if B' = true then [m'] else []) ++ rd' ∧ (B' = false → rd' = []) ∧ (∀ i ∈ blk t'.ra, i ∈ blk t2.ra)) := by
  have hx1 : ∀ j ∈ [xb], j ∈ wrI xb A r mr t2 := fun j hj => by rw [List.mem_singleton.1 hj]; simp [wrI]
  rcases hv with ⟨hre, rfl, k5⟩ | ⟨m', rest, ra', rc', hre, rfl, k5, dm, -, hra⟩
  · refine ⟨⟨0, false, 0, none, 0, []⟩, false, t2, rfl, o11.setI hx1 kk k5 (fun i hi => .inl hi), Sv.nil, hh7, ra2, rc2, rd, et7, by rw [← hrl, hre]; rfl, fun _ => by rw [← hrl, hre], fun i hi => hi⟩
  ·
   refine ⟨m', true, _, rfl, o11.setI hx1 kk k5 (fun i hi => .inl (hra i hi)), dm, ?_, ra', rc', rest, by rw [et7], by rw [← hrl, hre]; rfl, (fun e => by cases e), hra⟩
   have : lenI t2.s.ready = m'.z.length + lenI rest := by rw [hre]; simp [lenI]
   unfold IT.held lenS at hh7 ⊢
   simp only
   omega
 obtain ⟨hh12, ra3, rc3, rd', et12, hr12, hB12, hra12⟩ := hm12
 clear hv hrv
 have g12 := kk.get g11 (fun hm => by have e := List.mem_singleton.1 hm; have := hw10 xb (by simp [wrI]); omega)
 (refine Go.run (g:=?_))
 refine Go.name ?_
 intro H13 e13
 have k13 : Keeps [H10.n] H12 H13 := by subst e13; exact (Keeps.rfl _ _).put (by simp) _
 have g13 : H13.get H10.n = some (.cells [.int .u16 (m'.sid : Nat), .bool m'.un, .int .u32 (m'.ppid : Nat), .slice m'.a m'.z.length m'.cap] 39) := by subst e13; exact get_put_self g12
 have n13 : H13.n = H12.n := by subst e13; rfl
 clear e13
 obtain ⟨y1, y2, y3⟩ := o11.lts
 have hhn := o11.old.1
 have hmb13 : ∀ j ∈ [H10.n], j ∉ wrI xb A r mr t' ∧ j ≠ xv ∧ j ≠ tv ∧ j ∉ blk b9 ∧ tyOf H12 j ≠ some 5 := fun j hj => by
  have hjb := List.mem_singleton.1 hj
  obtain ⟨z1, z2, z3⟩ := o12.ne
  refine ⟨fun hm => ?_, fun e => ?_, fun e => ?_, fun hm => ?_, by rw [hjb, tyOf_cells g12]; decide⟩
  ·
   rcases o12.k.kinds j hm with e' | ⟨-, z⟩ | ⟨e', -⟩
   · rw [hjb, tyOf_cells g12] at e'; exact absurd e' (by decide)
   ·
    have := hw10 j (by simp [wrI, hra12 j z])
    omega
   · rw [hjb, tyOf_cells g12] at e'; exact absurd e' (by decide)
  ·
   have := o12.gx
   rw [← e, hjb, g12] at this; cases this
  ·
   have := o12.gt
   rw [← e, hjb, g12] at this; cases this
  · have := hb9 j hm; omega
 have o13 := o12.out k13 (fun j hj => by have := List.mem_singleton.1 hj; omega) hmb13
 have m13 := m12.keeps k13 (fun i hi hm => by
  rw [List.mem_singleton.1 hm] at hi
  exact sv_out m12 g12 (fun c e => by cases e) hi)
 have hlr := congrArg List.length hr12
 simp only [List.length_append] at hlr
 refine Go.again (B', m', H10.n, told' ++ [m], rd', t', b9, c9, H13) ⟨o13, g13, m13, hh12, ⟨ra3, rc3, et12⟩, hB12, ?_, by simp only; omega, hta10, fun hm => Nat.lt_irrefl _ (hb9 _ hm)⟩ ?_ ⟨rfl, rfl, rfl, rfl, trivial⟩ rfl rfl
 · rw [hr7, hr12]; simp
 ·
  simp only
  cases B' with
  | true => simp at hlr ⊢; omega
  | false => simp at hlr ⊢; omega
end Go.Proofs.Ytccbmmnkiihkaaa
namespace Go.Proofs.Ytccbmmnkiihkaaa
open Go.RowKit
set_option maxRecDepth 100000
def asB10 : Value → AHeap → List Nat → Option Bool
 | .bool b, _, _ => some b
 | _, _, _ => none
theorem asB10_true {v : Value} {h : AHeap} {wr : List Nat} (e : asB10 v h wr = some true) : v = .bool true := by
 unfold asB10 at e
 split at e
 · cases e; rfl
 · cases e
theorem known10Run : callK (A := Bool) Try.prog noS (fev Try.prog noS 50000) 6 [] emptyH asB10 = some true := by kernel_rfl
theorem known10 (h : AHeap) : CallS Try.prog [] 6 [] h fun u h' => u = .bool true ∧ h' = h := by
 obtain ⟨v, h', wr, hc, he⟩ := callRun_of (noS_ok _) known10Run
 obtain rfl := asB10_true he
 exact CallS.known noGlobals hc rfl h
end Go.Proofs.Ytccbmmnkiihkaaa
namespace Go.Proofs.Ytccbmmnkiihkaaa
set_option maxRecDepth 100000
attribute [local irreducible] Go GoR GoL
theorem boolU11 : Try.prog.underlying 4 = some .bool := by kernel_rfl
set_option maxHeartbeats 8000000 in
theorem same11_spec (m m' : IM) (h : AHeap) (hs : Sv h 5 1 m.a m.z.length m.cap (m.z.map bv)) (hz' : Rv Try.prog h 1 m'.a m'.z.length m'.cap (m'.z.map bv)) : CallS Try.prog [] 14 [iV m, iV m'] h fun v h' => v = .bool (sameB m m') := by
 have hz := hs.rv (P := Try.prog)
 obtain ⟨sid, un, pp, a, cap, z⟩ := m
 obtain ⟨sid', un', pp', a', cap', z'⟩ := m'
 simp only [iV, iC, sameB] at *
 by_cases e1 : sid = sid'
 ·
  subst e1
  by_cases e2 : un = un'
  ·
   subst e2
   by_cases e3 : pp = pp'
   ·
    subst e3
    (refine CallS.of2 Try.func14 rfl Try.ntmps14 Try.results14 rfl ?_)
    (refine Go.run (g:=?_))
    refine GoR.boolEq rfl rfl rfl rfl rfl rfl boolU11 ?_
    rw [beq_self_eq_true]
    (refine Go.run (g:=?_))
    (first|refine Go.finA rfl ?_|refine Go.finB rfl (hq:=?_))
    simp [retV]
   ·
    have e3' : ¬ (pp : Int) = (pp' : Int) := by omega
    (refine CallS.of2 Try.func14 rfl Try.ntmps14 Try.results14 rfl ?_)
    (refine Go.run (g:=?_))
    refine GoR.boolEq rfl rfl rfl rfl rfl rfl boolU11 ?_
    rw [beq_self_eq_true]
    (refine Go.run (g:=?_))
    (first|refine Go.finA rfl ?_|refine Go.finB rfl (hq:=?_))
    simp [retV, e3]
  ·
   have e2' : (un == un') = false := by cases un <;> cases un' <;> simp_all
   (refine CallS.of2 Try.func14 rfl Try.ntmps14 Try.results14 rfl ?_)
   (refine Go.run (g:=?_))
   refine GoR.boolEq rfl rfl rfl rfl rfl rfl boolU11 ?_
   rw [e2']
   (refine Go.run (g:=?_))
   (first|refine Go.finA rfl ?_|refine Go.finB rfl (hq:=?_))
   simp [retV, e2]
 ·
  have e1' : ¬ (sid : Int) = (sid' : Int) := by omega
  (refine CallS.of2 Try.func14 rfl Try.ntmps14 Try.results14 rfl ?_)
  (refine Go.run (g:=?_))
  (first|refine Go.finA rfl ?_|refine Go.finB rfl (hq:=?_))
  simp [retV, e1]
theorem hs_bound {w : Nat → Nat} {f : Nat → Bool} {B : Nat} : ∀ {n : Nat}, (∀ i, i < n → w i ≤ B) → hs w f n ≤ n * B
 | 0, _ => by simp [hs]
 | n + 1, h => by
  have ih := hs_bound (f := f) (n := n) fun i hi => h i (by omega)
  have h1 := h n (by omega)
  unfold hs
  rw [Nat.succ_mul]
  split <;> omega
section
variable {n L : Nat} {P : Nat → PV} {M : Nat → IM} {ow st cn rk : Nat → Nat} {T S : Nat} {most : Int} {A : IA} {acc : Nat → Bool} {k tl : Nat} {dl : List Nat} {t t' : IT}
theorem Snd.plen (X : Snd n L P M ow st cn rk T S most) {i : Nat} (hi : i < n) : ((P i).z.length : Int) ≤ most := by
 have h1 := X.len (X.ow_lt i hi)
 have h2 := X.most _ (X.ow_lt i hi)
 have h3 : hs (fun i => (P i).z.length) (fun j => decide (j = i)) n ≤ hs (fun i => (P i).z.length) (fun j => decide (ow j = ow i)) n := hs_le fun j hj h => by
  rw [of_decide_eq_true h]; simp
 rw [hs_one hi] at h3
 omega
theorem Tin.small (X : Snd n L P M ow st cn rk T S most) (hm : most ≤ 1048576) (I : Tin n L P M ow rk T A acc k dl tl t) : t.s.ready.length ≤ 60 ∧ t.s.waits.length ≤ 60 ∧ t.kept.length ≤ 60 ∧ t.held ≤ 62914560 ∧ dl.length ≤ 60 := by
 have hL := X.L60
 have hn := X.n60
 have h1 : dl.length ≤ L := by
  have := nodup_le (l := dl) (k := List.range L) I.ms.d1 fun g hg => List.mem_range.2 (I.ms.d2 g hg).1
  simpa using this
 have h2 := congrArg List.length I.rd
 simp only [List.length_map, List.length_drop] at h2
 have h3 : t.s.waits.length ≤ L := by
  have := nodup_le (l := t.s.waits.map (·.1)) (k := (List.range L).map fun g => ((M g).sid, rk g)) I.ms.w3 fun key hk => by
   obtain ⟨s, r⟩ := key
   have hpos : ∀ {l : WL} {k : Nat × Nat}, k ∈ l.map (·.1) → ∃ m, gl l k = some m := fun {l k} => by
    induction l with
    | nil => exact fun h => by cases h
    | cons p l ih =>
     intro h
     unfold gl
     by_cases q : p.1 = k
     · exact ⟨p.2, if_pos q⟩
     ·
      rw [if_neg q]
      rcases List.mem_cons.1 h with y | y
      · exact absurd y.symm q
      · exact ih y
   obtain ⟨m, hm⟩ := hpos hk
   obtain ⟨g, a1, a2, a3, a4, -⟩ := I.ms.w1 s r m hm
   exact List.mem_map.2 ⟨g, List.mem_range.2 a1, by rw [a3, a4]⟩
  simpa using this
 have h4 := I.kp.len
 have h5 := I.H
 have h6 := hs_bound (w := fun i => (P i).z.length) (f := acc) (B := 1048576) (n := n) fun i hi => by have := X.plen hi; omega
 have h7 : n * 1048576 ≤ 60 * 1048576 := Nat.mul_le_mul_right _ hn
 exact ⟨by omega, by omega, by omega, by omega, by omega⟩
theorem Tin.start (X : Snd n L P M ow st cn rk T S most) : Tin n L P M ow rk T A (fun _ => false) 0 [] 0 ⟨none, 0, none, 0, at32 T 4294967295, [], [], [], ⟨[], [], []⟩⟩ := by
 have hnd : ∀ g, g < L → ¬ dn n ow (fun _ => false) g := fun g hg d => by
  obtain ⟨h1, h2⟩ := X.cnp g hg
  have := d (st g) (by omega) ((X.seg g (st g) hg (by omega)).2 (by omega))
  cases this
 refine ⟨SetOk.start T n, rfl, ⟨fun i hi h => (by cases h), fun q hq => (by cases hq), List.nodup_nil⟩, ⟨List.nodup_nil, fun g hg => (by cases hg), fun g hg _ d => absurd d (hnd g hg), fun g hg _ => ⟨fun h => (by cases h), fun h => absurd h (Nat.not_lt_zero _)⟩, List.Pairwise.nil, fun s r h => absurd h (Nat.not_lt_zero _), fun s r m h => (by cases h), fun g hg _ d => absurd d (hnd g hg), List.nodup_nil, fun s _ => rfl⟩, Nat.le_refl _, rfl, ?_, ?_⟩
 · rw [hs_zero fun i _ => rfl]; rfl
 · rw [hs_zero fun i _ => by simp]; exact Nat.zero_le _
theorem Snd.pbP (X : Snd n L P M ow st cn rk T S most) (hS : S < 65536) (hp : ∀ g, g < L → (M g).ppid < 4294967296) {i : Nat} (hi : i < n) : PB (P i) := by
 have hL := X.ow_lt i hi
 refine ⟨by rw [X.pt i hi]; exact at32_lt _ _, X.pfl i hi, by rw [X.psid i hi]; have := X.sid _ hL; omega, ?_, by rw [X.pppid i hi]; exact hp _ hL⟩
 rw [X.pssn i hi]
 cases hu : (M (ow i)).un with
 | true => simp
 | false =>
  have := X.rk60 hL hu
  simp only [Bool.false_eq_true, if_false]
  omega
end
end Go.Proofs.Ytccbmmnkiihkaaa
namespace Go.Proofs.Ytccbmmnkiihkaaa
set_option maxRecDepth 100000
instance miPlace : MI Try.prog 69 .u16 (.int .i64 0) := ⟨22, 3, by kernel_rfl, by kernel_rfl, by kernel_rfl, rfl, fun em n => by kernel_rfl⟩
def plv (l : List (Nat × Nat)) : List (Int × Value) := l.map fun p => ((p.1 : Int), Value.int .i64 (p.2 : Nat))
theorem al_plv : ∀ (l : List (Nat × Nat)) (k : Nat), (al (plv l) k).getD (.int .i64 0) = .int .i64 (nget l k : Nat)
 | [], k => rfl
 | p :: l, k => by
  show (if ((p.1 : Nat) : Int) = (k : Int) then some (Value.int .i64 (p.2 : Nat)) else al (plv l) k).getD _ = _
  unfold nget
  by_cases h : p.1 = k
  · rw [if_pos h, if_pos (by omega)]; rfl
  · rw [if_neg h, if_neg (by omega)]; exact al_plv l k
theorem aset_plv : ∀ (l : List (Nat × Nat)) (k v : Nat), aset (plv l) k (.int .i64 (v : Nat)) = plv (nput l k v)
 | [], k, v => rfl
 | p :: l, k, v => by
  show (if ((p.1 : Nat) : Int) = (k : Int) then _ else _) = _
  unfold nput
  by_cases h : p.1 = k
  · rw [if_pos h, if_pos (by omega)]; subst h; rfl
  ·
   rw [if_neg h, if_neg (by omega)]
   show _ :: aset (plv l) k (.int .i64 (v : Nat)) = _
   rw [aset_plv l k v]; rfl
def ucs (uf : Nat → Bool) (L : Nat) : List Value := (List.range L).map fun g => Value.bool (uf g)
theorem ucs_len (uf : Nat → Bool) (L : Nat) : (ucs uf L).length = L := by simp [ucs]
theorem ucs_at {uf : Nat → Bool} {L i : Nat} (hi : i < L) : (ucs uf L)[i]? = some (.bool (uf i)) := by
 unfold ucs
 rw [List.getElem?_map, List.getElem?_range hi]; rfl
theorem ucs_set {uf : Nat → Bool} {L i : Nat} (hi : i < L) : setL (ucs uf L) i [.bool true] = ucs (acS uf i) L := by
 apply List.ext_getElem?
 intro x
 have hl := ucs_len uf L
 unfold setL
 rw [List.append_assoc]
 rcases Nat.lt_or_ge x L with q | q
 ·
  rw [ucs_at q]
  rcases Nat.lt_trichotomy x i with y | y | y
  ·
   rw [List.getElem?_append_left (by rw [List.length_take]; omega), List.getElem?_take, if_pos y, ucs_at q]
   unfold acS
   rw [decide_eq_false (show ¬ x = i by omega)]; rfl
  ·
   subst y
   rw [List.getElem?_append_right (by rw [List.length_take]; omega), List.length_take, show x - min x (ucs uf L).length = 0 by omega]
   unfold acS
   rw [decide_eq_true rfl]; rfl
  ·
   rw [List.getElem?_append_right (by rw [List.length_take]; omega), List.length_take, List.getElem?_append_right (by simp; omega), List.getElem?_drop, show i + [Value.bool true].length + (x - min i (ucs uf L).length - [Value.bool true].length) = x by simp; omega, ucs_at q]
   unfold acS
   rw [decide_eq_false (show ¬ x = i by omega)]; rfl
 · rw [List.getElem?_eq_none (by simp only [List.length_append, List.length_take, List.length_drop, List.length_singleton]; omega), List.getElem?_eq_none (by rw [ucs_len]; exact q)]
theorem ucs_zero (L : Nat) : List.replicate L (Value.bool false) = ucs (fun _ => false) L := by
 unfold ucs
 rw [List.map_const', List.length_range]
end Go.Proofs.Ytccbmmnkiihkaaa