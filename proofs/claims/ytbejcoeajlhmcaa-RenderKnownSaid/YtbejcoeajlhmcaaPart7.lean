/- Walks and plain facts for the laws of this seat: what each function answers, for every input. -/
import Derived.Test.YtbejcoeajlhmcaaPart6

set_option linter.unusedVariables false
set_option linter.unusedSectionVars false
namespace Go.Proofs.Gr
open Go.SL Go.RowKit Go.Proofs Go.GP Go.HP
section
variable {V : Type} [DecidableEq V] {lt : V → V → Bool}
theorem Ord.irr (hO : Ord lt) (a : V) : lt a a = false := by
  cases h : lt a a with
  | false => rfl
  | true => have := hO.asymm a a h; rw [h] at this; cases this
def freeB (E : List (V × V)) (left : List V) (v : V) : Bool := E.all fun e => !(decide (e.2 = v) && decide (e.1 ∈ left))
theorem freeB_iff {E : List (V × V)} {left : List V} {v : V} : freeB E left v = true ↔ Free E left v := by
  unfold freeB Free
  rw [List.all_eq_true]
  constructor
  · intro h e he h2 h1
    have := h e he
    simp [h1, h2] at this
  · intro h e he
    by_cases h2 : e.2 = v
    · have := h e he h2
      simp [this]
    · simp [h2]
def leastL (lt : V → V → Bool) : List V → Option V
  | [] => none
  | v :: l => match leastL lt l with | none => some v | some w => if lt w v then some w else some v
theorem leastL_none {l : List V} (h : leastL lt l = none) : l = [] := by
  cases l with
  | nil => rfl
  | cons v l =>
    unfold leastL at h
    cases e : leastL lt l with
    | none => rw [e] at h; cases h
    | some w => rw [e] at h; simp only at h; split at h <;> cases h
theorem leastL_some (hO : Ord lt) : ∀ {l : List V} {v : V}, leastL lt l = some v → v ∈ l ∧ ∀ u ∈ l, lt u v = false
  | [], v, h => by cases h
  | a :: l, v, h => by
    unfold leastL at h
    cases e : leastL lt l with
    | none =>
      rw [e] at h
      obtain rfl := Option.some.inj h
      rw [leastL_none e]
      exact ⟨by simp, fun u hu => by simp at hu; subst hu; exact Ord.irr hO u⟩
    | some w =>
      rw [e] at h
      obtain ⟨h1, h2⟩ := leastL_some hO e
      simp only at h
      split at h
      · rename_i h3
        obtain rfl := Option.some.inj h
        refine ⟨by simp [h1], fun u hu => ?_⟩
        rcases List.mem_cons.1 hu with rfl | hu
        · exact hO.asymm _ _ h3
        · exact h2 u hu
      · rename_i h3
        obtain rfl := Option.some.inj h
        refine ⟨by simp, fun u hu => ?_⟩
        rcases List.mem_cons.1 hu with rfl | hu
        · exact Ord.irr hO u
        · have h4 := h2 u hu
          cases h5 : lt u a with
          | false => rfl
          | true =>
            exfalso
            have h6 : lt w a = false := by simpa using h3
            have := hO.trans _ _ _ h6 h4
            rw [this] at h5; cases h5
def kahnF (lt : V → V → Bool) (E : List (V × V)) : Nat → List V → List V
  | 0, _ => []
  | n + 1, left => match leastL lt (left.filter (freeB E left)) with | none => [] | some v => v :: kahnF lt E n (left.erase v)
theorem kahnF_topo (hO : Ord lt) {E : List (V × V)} : ∀ (n : Nat) (left : List V), left.length ≤ n → Topo lt E left (kahnF lt E n left)
  | 0, left, h => by
    have : left = [] := List.eq_nil_of_length_eq_zero (by omega)
    subst this
    exact .nil fun v hv => by cases hv
  | n + 1, left, h => by
    unfold kahnF
    cases e : leastL lt (left.filter (freeB E left)) with
    | none =>
      have h0 := leastL_none e
      refine .nil fun v hv hf => ?_
      have : v ∈ left.filter (freeB E left) := List.mem_filter.2 ⟨hv, freeB_iff.2 hf⟩
      rw [h0] at this
      cases this
    | some v =>
      obtain ⟨h1, h2⟩ := leastL_some hO e
      rw [List.mem_filter] at h1
      refine .cons h1.1 (freeB_iff.1 h1.2) (fun u hu hf => h2 u (List.mem_filter.2 ⟨hu, freeB_iff.2 hf⟩)) (kahnF_topo hO n _ ?_)
      rw [List.length_erase_of_mem h1.1]
      omega
theorem Topo.congr {E : List (V × V)} {left L : List V} (h : Topo lt E left L) : ∀ {E' : List (V × V)} {left' : List V}, (∀ e, e.1 ∈ left → (e ∈ E ↔ e ∈ E')) → left.Perm left' → Topo lt E' left' L := by
  have fr : ∀ {E E' : List (V × V)} {left left' : List V} {v : V}, (∀ e, e.1 ∈ left → (e ∈ E ↔ e ∈ E')) → left.Perm left' → Free E left v → Free E' left' v := fun hE hp hf e he hv hm => by
    have hm' := hp.mem_iff.2 hm
    exact hf e ((hE e hm').2 he) hv hm'
  have fr' : ∀ {E E' : List (V × V)} {left left' : List V} {v : V}, (∀ e, e.1 ∈ left → (e ∈ E ↔ e ∈ E')) → left.Perm left' → Free E' left' v → Free E left v := fun hE hp hf e he hv hm => by
    exact hf e ((hE e hm).1 he) hv (hp.mem_iff.1 hm)
  induction h with
  | nil h =>
    intro E' left' hE hp
    exact .nil fun v hv hf => h v (hp.mem_iff.2 hv) (fr' hE hp hf)
  | cons h1 h2 h3 h4 ih =>
    intro E' left' hE hp
    exact .cons (hp.mem_iff.1 h1) (fr hE hp h2) (fun u hu hf => h3 u (hp.mem_iff.2 hu) (fr' hE hp hf)) (ih (fun e he => hE e (List.mem_of_mem_erase he)) (hp.erase _))
end
/-- the vertices of the lines, in their order -/
def topoF (ps : List PartP) : List Vtx := kahnF ltV (allE ps) (allV ps).length (allV ps)
theorem topoF_topo (ps : List PartP) : Topo ltV (allE ps) (allV ps) (topoF ps) := kahnF_topo ltV_ord _ _ (Nat.le_refl _)
theorem _root_.Go.GP.Sq.nodup {ps : List PartP} (h : Sq ps) : (allV ps).Nodup := by
  induction h with
  | nil => exact List.nodup_nil
  | @cons p ps h t ih =>
    rw [allV_cons, List.nodup_append]
    exact ⟨own_nodup p, ih, fun a ha b hb e => h.own a ha (e ▸ hb)⟩
theorem _root_.Go.GP.Inv.nodes_perm {ps : List PartP} {G : Gr} (h : Inv ps G) (hs : Sq ps) : (mks G.nodes).Perm (allV ps) := by
  rw [List.perm_iff_count]
  intro v
  rw [List.Nodup.count h.nk, List.Nodup.count (Sq.nodup hs)]
  simp only [h.keys]
theorem _root_.Go.GP.Inv.told {ps : List PartP} {G : Gr} (h : Inv ps G) (hs : Sq ps) {out : List Vtx} (ht : Topo ltV (EG G.nodes) (mks G.nodes) out) : out = topoF ps := by
  refine Topo.unique ltV_tot (Topo.congr ht (E' := allE ps) (fun e he => ?_) (h.nodes_perm hs)) (fun e => Iff.rfl) (List.Perm.refl _) (topoF_topo ps)
  rw [h.edge hs]
  constructor
  · exact fun h => h.1
  · intro h2
    exact ⟨h2, fun e2 => (Sq.line hs ((h.keys _).1 he)).1 e2⟩
def textV (ps : List PartP) (v : Vtx) : ByteArray := (((ps.flatMap fun p => (own p).zip p.lines).find? fun q => decide (q.1 = v)).map (·.2)).getD ⟨#[]⟩
def aliveV (ps : List PartP) (v : Vtx) : Bool := !((ps.flatMap (·.gone)).contains v)
def lineP (ps : List PartP) (v : Vtx) : LineP := ⟨v, textV ps v, aliveV ps v⟩
def linesP (ps : List PartP) : List LineP := (topoF ps).map (lineP ps)
theorem zip_mem {p : PartP} {q : Vtx × ByteArray} : q ∈ (own p).zip p.lines ↔ ∃ i, p.lines[i]? = some q.2 ∧ p.vtx i = q.1 := by
  obtain ⟨v, s⟩ := q
  rw [List.mem_iff_getElem?]
  constructor
  · rintro ⟨i, hi⟩
    rw [List.getElem?_zip_eq_some] at hi
    obtain ⟨h1, h2⟩ := hi
    refine ⟨i, h2, ?_⟩
    unfold own at h1
    rw [List.getElem?_map] at h1
    obtain ⟨k, hk, e⟩ := Option.map_eq_some_iff.1 h1
    rw [List.getElem?_range (by have := (List.getElem?_eq_some_iff.1 h2).1; omega)] at hk
    obtain rfl := Option.some.inj hk
    exact e
  · rintro ⟨i, h1, h2⟩
    have hl := (List.getElem?_eq_some_iff.1 h1).1
    refine ⟨i, ?_⟩
    rw [List.getElem?_zip_eq_some]
    refine ⟨?_, h1⟩
    unfold own
    rw [List.getElem?_map, List.getElem?_range hl]
    exact congrArg some h2
theorem _root_.Go.GP.Inv.textV {ps : List PartP} {G : Gr} (h : Inv ps G) {v : Vtx} (hv : v ∈ allV ps) : Gr.textV ps v = (nd G.nodes v).text := by
  unfold Gr.textV
  obtain ⟨p, hp, hvo⟩ := mem_allV.1 hv
  obtain ⟨i, hi, rfl⟩ := mem_own.1 hvo
  have hm : (p.vtx i, p.lines[i]) ∈ ps.flatMap fun p => (own p).zip p.lines := List.mem_flatMap.2 ⟨p, hp, zip_mem.2 ⟨i, List.getElem?_eq_getElem hi, rfl⟩⟩
  cases e : (ps.flatMap fun p => (own p).zip p.lines).find? fun q => decide (q.1 = p.vtx i) with
  | none =>
    have := List.find?_eq_none.1 e _ hm
    simp at this
  | some q =>
    have h1 := List.find?_some e
    have h2 := List.mem_of_find?_eq_some e
    simp only [decide_eq_true_eq] at h1
    obtain ⟨p', hp', hz⟩ := List.mem_flatMap.1 h2
    obtain ⟨j, hj, hj2⟩ := zip_mem.1 hz
    have := h.text p' hp' j _ hj
    rw [hj2, h1] at this
    exact this.symm
theorem _root_.Go.GP.Inv.lineP {ps : List PartP} {G : Gr} (h : Inv ps G) {v : Vtx} (hv : v ∈ allV ps) : lineOf G.nodes v = Gr.lineP ps v := by
  unfold lineOf Gr.lineP
  rw [h.textV hv]
  have hn := (h.node v _ (nd_some ((h.keys v).2 hv))).gone
  rw [hn]
  congr 1
  unfold aliveV cntV
  rw [Bool.eq_iff_iff]
  simp only [decide_eq_true_eq, Bool.not_eq_true', List.contains_eq_mem, decide_eq_false_iff_not]
  rw [show (((ps.flatMap (·.gone)).count v : Nat) : Int) = 0 ↔ (ps.flatMap (·.gone)).count v = 0 by omega, List.count_eq_zero]
theorem topoF_mem {ps : List PartP} {v : Vtx} (h : v ∈ topoF ps) : v ∈ allV ps := Topo.sub (topoF_topo ps) v h
theorem _root_.Go.GP.Inv.lines {ps : List PartP} {G : Gr} (h : Inv ps G) : (topoF ps).map (lineOf G.nodes) = linesP ps := List.map_congr_left fun v hv => h.lineP (topoF_mem hv)
theorem topoF_perm_all {ps : List PartP} (hs : Sq ps) : (topoF ps).Perm (allV ps) := by
  obtain ⟨r, hr, _⟩ := hs.rank
  exact Topo.perm (topoF_topo ps) r fun e he _ _ => hr e he
end Go.Proofs.Gr

set_option linter.unusedVariables false
set_option linter.unusedSimpArgs false
namespace Go.Proofs.Gr
open Go.SL Go.RowKit Go.Proofs Go.GP
set_option maxHeartbeats 1000000
/-- a graph in memory, and the parts that came to it (the last one ahead) -/
structure GG (w0 : World) (X : SS) (m : GrM) (ps : List PartP) : Prop where
  ok : GOk w0 X m
  inv : GP.Inv ps m.gr
  sq : Sq ps
  n : (allV ps).length + ps.length ≤ 1000000
  lim : m.lim ≤ 500000000000
theorem edges_len (p : PartP) : (edges p).length ≤ (own p).length + 2 := by
  unfold edges
  split
  · simp
  · rw [edgeL_len]
    unfold way
    simp
theorem allE_len (ps : List PartP) : (allE ps).length ≤ (allV ps).length + 2 * ps.length := by
  induction ps with
  | nil => simp [allE]
  | cons p ps ih =>
    have := edges_len p
    unfold allE allV at ih ⊢
    rw [List.flatMap_cons, List.flatMap_cons, List.length_append, List.length_append, List.length_cons]
    omega
theorem GG.nE {w0 : World} {X : SS} {m : GrM} {ps : List PartP} (h : GG w0 X m ps) : (EG m.gr.nodes).length ≤ 1000000000 := by
  have := h.inv.edgesLen
  have := allE_len ps
  have := h.n
  omega
theorem GG.nN {w0 : World} {X : SS} {m : GrM} {ps : List PartP} (h : GG w0 X m ps) : m.nodes.length ≤ 1000000000 := by
  have h1 := h.inv.nodesLen
  have h2 : m.gr.nodes.length = m.nodes.length := List.length_map _
  have := h.n
  omega
theorem GG.over {w0 : World} {X Y : SS} {m : GrM} {ps : List PartP} (h : GG w0 X m ps) (ho : Over X Y) : GG w0 Y m ps := ⟨h.ok.over ho, h.inv, h.sq, h.n, h.lim⟩
theorem lines2_fc {w0 : World} {S X : SS} {m : GrM} {ps : List PartP} (h : GG w0 X m ps) (hX : Over X S) :
    FC Try.prog w0 17 [m.ptr] (GS m ++ S) (fun v S' => ∃ seg, S' = seg :: (GS m ++ S) ∧ SlV 43 35 v (linesP ps).length (lines (linesP ps)) seg) := by
  have hk : mks m.gr.nodes = mks m.nodes := mks_plN _
  refine (lines_fc h.ok hX h.nE h.nN (fun e he => ?_) (fun he => ?_)).mono ?_
  · rw [← hk]; exact h.inv.tgt h.sq e he
  · rw [← hk] at he; exact h.inv.noEnd h.sq he
  · rintro v S' ⟨seg, out, rfl, ht, hs⟩
    have e := h.inv.told h.sq ht
    subst e
    refine ⟨seg, rfl, ?_⟩
    rw [h.inv.lines] at hs
    have : (topoF ps).length = (linesP ps).length := (List.length_map _).symm
    rwa [this] at hs
open Classical in
noncomputable def befP (ps : List PartP) (a b : Vtx) : Bool := decide (Bef ps a b)
open Classical in
theorem befP_iff {ps : List PartP} {a b : Vtx} : befP ps a b = true ↔ Bef ps a b := by unfold befP; exact decide_eq_true_iff
theorem GG.bef {w0 : World} {X : SS} {m : GrM} {ps : List PartP} (h : GG w0 X m ps) {a b : Vtx} : befB m.gr a b = befP ps a b := by
  rw [Bool.eq_iff_iff, befB_iff, befP_iff, h.inv.bef h.sq]
theorem before2_fc {w0 : World} {S X : SS} {m : GrM} {ps : List PartP} (h : GG w0 X m ps) (hS : Over (GS m ++ X) S) {a b : Vtx} (ha : okV a) (hb : okV b) :
    FC Try.prog w0 18 [m.ptr, vtxV a, vtxV b] S (fun u S' => u = .bool (befP ps a b) ∧ S' = S) := by
  rw [← h.bef]
  exact before_fc h.ok hS ha hb (h.inv.noRoot h.sq) h.nE
theorem came_n (ps : List PartP) (p : PartP) : (allV (came ps p)).length + (came ps p).length ≤ (allV ps).length + ps.length + p.lines.length + 1 := by
  by_cases h : New ps p
  · rw [came_new h, allV_cons, List.length_append, own_len, List.length_cons]
    omega
  · rw [came_not h]; omega
theorem add2_fc {w0 : World} {S X : SS} {m : GrM} {ps : List PartP} (h : GG w0 X m ps) (hX : Over X S) {p : PartM} (hp : PartR p) (hrL : Rd w0 S p.LA (strs p.lines)) (hrG : Rd w0 S p.GA (vtxs p.gone))
    (hn : (allV ps).length + ps.length + p.lines.length + 1 ≤ 1000000) (hlim : m.lim + addL p ≤ 500000000000) :
    FC Try.prog w0 16 [m.ptr, partV p] (GS m ++ S) (fun v S' => ∃ m', v = .int .i64 (addE m.gr p.pl) ∧ S' = GS m' ++ S ∧ GG w0 X m' (came ps p.pl) ∧ m'.lim ≤ m.lim + addL p ∧ m'.r = m.r ∧ ∀ x ∈ m.junk, x ∈ m'.junk) := by
  refine (add_fc h.ok hX hp hrL hrG (h.inv.noRoot h.sq) h.nE (by omega)).mono ?_
  rintro v S' ⟨m', h1, h2, h3, h4, h5, h6, h7⟩
  obtain ⟨i, s⟩ := addT_inv h.inv h.sq p.pl
  have hc := came_n ps p.pl
  have hl : p.pl.lines.length = p.lines.length := rfl
  exact ⟨m', h1, h2, ⟨h3, h4 ▸ i, s, by omega, by omega⟩, h6, h5, h7⟩
instance : Inhabited LineP := ⟨⟨v0, ⟨#[]⟩, false⟩⟩
theorem lines_get {l : List LineP} {k : Nat} (hk : k < l.length) {j : Nat} (hj : j < 35) : (lines l)[k * 35 + j]? = (lineC l[k])[j]? := by
  unfold lines
  rw [flat_get lineC_len l (k * 35 + j) (by omega), show (k * 35 + j) / 35 = k from by omega, show (k * 35 + j) % 35 = j from by omega, getElem!_pos l k hk]
theorem lines_some {w0 : World} {S : SS} {A : Option Addr} {l : List LineP} (h : Rd w0 S A (lines l)) (hk : 0 < l.length) : ∃ a, A = some a :=
  h.some (fun e => by have := lines_len l; rw [e] at this; simp at this; omega)
section
variable {w0 : World} {S : SS} {a : Addr} {l : List LineP} {k : Nat}
theorem line_at (h : Rd w0 S (some a) (lines l)) (hk : k < l.length) : ∀ (j : Nat) (v : Value), (lineC l[k])[j]? = some v → Cell w0 S ((a.add (k * 35)).add j) v := by
  intro j v hj
  have hj2 : j < 35 := by have := (List.getElem?_eq_some_iff.1 hj).1; rwa [lineC_len] at this
  rw [addr_add_add]
  exact h.at (by rw [lines_get hk hj2]; exact hj)
theorem lineC_text (l : LineP) : (lineC l)[33]? = some (.string l.text) ∧ (lineC l)[34]? = some (.bool l.alive) := by
  have h := vtxL_len l.v
  unfold lineC
  constructor
  · rw [List.getElem?_append_right (by omega), h]; rfl
  · rw [List.getElem?_append_right (by omega), h]; rfl
end
theorem ltake_snoc {α : Type} {l : List α} {k : Nat} (hk : k < l.length) : l.take (k + 1) = l.take k ++ [l[k]] := by
  rw [List.take_add_one, List.getElem?_eq_getElem hk]; rfl
theorem linesP_len {ps : List PartP} (hs : Sq ps) : (linesP ps).length = (allV ps).length := by
  unfold linesP
  rw [List.length_map, (topoF_perm_all hs).length_eq]
end Go.Proofs.Gr

set_option linter.unusedVariables false
set_option linter.unusedSimpArgs false
namespace Go.Proofs.Gr
open Go.SL Go.RowKit Go.Proofs Go.GP
set_option maxHeartbeats 1000000
def hb1 (b : UInt8) : HashB := ⟨b :: List.replicate 31 0, by simp⟩
def str1 (b : UInt8) : ByteArray := ⟨#[b]⟩
def p1 (r : Nat) : PartM := ⟨hb1 1, 0, 0, rootV, endV, some ⟨r, 0, none⟩, 2, [str1 97, str1 98], none, 0, []⟩
def p2 (r : Nat) : PartM := ⟨hb1 2, 0, 0, (hb1 1, 0), (hb1 1, 1), some ⟨r, 0, none⟩, 1, [str1 120], none, 0, []⟩
def p3 (r g : Nat) : PartM := ⟨hb1 3, 0, 0, (hb1 1, 0), (hb1 1, 1), some ⟨r, 0, none⟩, 1, [str1 121], some ⟨g, 0, none⟩, 1, [(hb1 1, 0)]⟩
theorem part_stk {w0 : World} {S : SS} {P : Program} {n r k : Nat} {T : TT} {x v : PV} {u : PartM} {z : List Value} (hk : S[k]? = some [(r, .cells z 36 102)]) (hx : x.val T = some (.pointer (some ⟨r, 0, none⟩))) (hv : v.val T = some (partV u)) (hz : z.length = 102) :
    OW P w0 n (.st 102 x v) T S (fun _ S' => S' = S.set k (pseg r u)) := by
  refine (OW.st (k := k) (c := z) (u := partV u) hx hv hk ((List.size_toArray).trans (partC_len u)) (by omega) (partC_one u)).mono ?_
  rintro _ _ rfl
  rw [part_box, setAll (by rw [partC_len, hz])]
theorem part_read {w0 : World} {S : SS} {r E tot : Nat} {u : PartM} (hm : (r, AO.cells (partC u) E tot) ∈ S.flatten) : ReadsAs w0 S (some 102) ⟨r, 0, none⟩ (partV u) := ⟨partC u, rfl, partC_len u, all_at hm⟩
end Go.Proofs.Gr

set_option linter.unusedVariables false
set_option linter.unusedSimpArgs false
namespace Go.Proofs.Gr
open Go.SL Go.RowKit Go.Proofs Go.GP
set_option maxHeartbeats 1000000
structure ActM where
  rm : Bool
  p : PartM
instance : Inhabited ActM := ⟨⟨false, zPart⟩⟩
def actC (a : ActM) : List Value := .bool a.rm :: partC a.p
def actS (l : List ActM) : List Value := l.flatMap actC
/-- what the arguments' acts are -/
structure Acts (w0 : World) (A : Option Addr) (l : List ActM) : Prop where
  rd : Rd w0 [] A (actS l)
  part : ∀ x ∈ l, PartA w0 x.p
  len : l.length ≤ 1000000000000000
theorem PartA.rng {W : World} {p : PartM} (h : PartA W p) (h1 : p.lines.length ≤ 12) (h2 : p.gone.length ≤ 12) (h3 : p.first ≤ 1000000) : PartR p :=
  ⟨h.at_, ⟨h.first.1, by omega⟩, by omega, by omega, h.gcap, h.gnil, h.up, h.down, h.gone⟩
theorem Acts.get {w0 : World} {A : Option Addr} {l : List ActM} (h : Acts w0 A l) {k : Nat} (hk : k < l.length) : PartA w0 l[k].p := h.part _ (List.getElem_mem hk)
end Go.Proofs.Gr

set_option linter.unusedVariables false
namespace Go.Proofs.Gr
open Go.SL Go.RowKit Go.Proofs Go.GP
def stepR (E : List (Vtx × Vtx)) (l : List Vtx) : List Vtx := l ++ (E.filter fun e => decide (e.1 ∈ l) && !decide (e.2 ∈ l)).map (·.2)
def iterR (E : List (Vtx × Vtx)) : Nat → List Vtx → List Vtx
  | 0, l => l
  | n + 1, l => iterR E n (stepR E l)
def reachL (E : List (Vtx × Vtx)) (a : Vtx) : List Vtx := iterR E E.length ((E.filter fun e => decide (e.1 = a)).map (·.2))
def closedB (E : List (Vtx × Vtx)) (a : Vtx) : Bool := E.all fun e => !(decide (e.1 = a) || decide (e.1 ∈ reachL E a)) || decide (e.2 ∈ reachL E a)
theorem iterR_sound {E : List (Vtx × Vtx)} {a : Vtx} : ∀ (n : Nat) (l : List Vtx), (∀ v ∈ l, Rch E a v) → ∀ v ∈ iterR E n l, Rch E a v
  | 0, l, h => h
  | n + 1, l, h => by
    refine iterR_sound n _ fun v hv => ?_
    unfold stepR at hv
    rcases List.mem_append.1 hv with hv | hv
    · exact h v hv
    · obtain ⟨e, he, rfl⟩ := List.mem_map.1 hv
      rw [List.mem_filter, Bool.and_eq_true, decide_eq_true_eq] at he
      exact (h _ he.2.1).snoc he.1
theorem rch_iff {E : List (Vtx × Vtx)} {a b : Vtx} (hc : closedB E a = true) : Rch E a b ↔ b ∈ reachL E a := by
  unfold closedB at hc
  rw [List.all_eq_true] at hc
  have hc' : ∀ e ∈ E, (e.1 = a ∨ e.1 ∈ reachL E a) → e.2 ∈ reachL E a := by
    intro e he h
    have := hc e he
    rcases h with h | h
    · simpa [h] using this
    · simpa [h] using this
  constructor
  · have key : ∀ x y, Rch E x y → (x = a ∨ x ∈ reachL E a) → y ∈ reachL E a := by
      intro x y h
      induction h with
      | one h => exact fun hx => hc' _ h hx
      | cons h1 h2 ih => exact fun hx => ih (.inr (hc' _ h1 hx))
    exact fun h => key _ _ h (.inl rfl)
  · exact iterR_sound _ _ (fun v hv => by
      obtain ⟨e, he, rfl⟩ := List.mem_map.1 hv
      rw [List.mem_filter, decide_eq_true_eq] at he
      obtain ⟨h1, h2⟩ := he
      subst h2
      exact .one h1) b
def hasC (ps : List PartP) (v : Vtx) : Bool := decide (v = rootV) || decide (v = endV) || decide (v ∈ allV ps)
theorem hasC_iff {ps : List PartP} {v : Vtx} : hasC ps v = true ↔ HasV ps v := by
  unfold hasC HasV
  simp [or_assoc]
def befC (ps : List PartP) (a b : Vtx) : Bool := hasC ps a && hasC ps b && !decide (a = b) && !decide (a = endV) && !decide (b = rootV) && (decide (a = rootV) || decide (b = endV) || decide (b ∈ reachL (allE ps) a))
theorem befC_iff {ps : List PartP} {a b : Vtx} (hc : closedB (allE ps) a = true) : befC ps a b = true ↔ Bef ps a b := by
  unfold befC Bef
  rw [rch_iff hc]
  simp only [Bool.and_eq_true, hasC_iff, Bool.or_eq_true, decide_eq_true_eq, Bool.not_eq_true', decide_eq_false_iff_not, and_assoc, ne_eq, or_assoc]
def formedC (p : PartP) : Bool := decide p.gone.Nodup && (p.gone.all fun v => !decide (v = rootV) && !decide (v = endV)) && decide (0 ≤ p.first) && !decide (p.up = endV) && !decide (p.down = rootV)
theorem formedC_iff {p : PartP} : formedC p = true ↔ Formed p := by
  unfold formedC
  simp only [Bool.and_eq_true, decide_eq_true_eq, Bool.not_eq_true', decide_eq_false_iff_not, List.all_eq_true]
  constructor
  · rintro ⟨⟨⟨⟨h1, h2⟩, h3⟩, h4⟩, h5⟩
    exact ⟨h1, fun v hv => h2 v hv, h3, h4, h5⟩
  · rintro ⟨h1, h2, h3, h4, h5⟩
    exact ⟨⟨⟨⟨h1, fun v hv => h2 v hv⟩, h3⟩, h4⟩, h5⟩
def thereC (ps : List PartP) (p : PartP) : Bool := (ps.any fun q => decide (q.name = p.name)) || (own p).any fun v => decide (v ∈ allV ps)
def addC (ps : List PartP) (p : PartP) : Int :=
  if thereC ps p then 6 else if !formedC p then 4 else if !hasC ps p.up || !hasC ps p.down || (p.gone.any fun v => !decide (v ∈ allV ps)) then 10 else if !befC ps p.up p.down then 4 else 0
theorem thereC_iff {ps : List PartP} {G : Gr} (h : GP.Inv ps G) {p : PartP} : thereC ps p = true ↔ ThereG G p := by
  rw [h.there]
  unfold thereC
  simp only [Bool.or_eq_true, List.any_eq_true, decide_eq_true_eq]
theorem addC_eq {ps : List PartP} {G : Gr} (h : GP.Inv ps G) (hs : Sq ps) {p : PartP} (hc : closedB (allE ps) p.up = true) : addE G p = addC ps p := by
  unfold addC
  by_cases h1 : ThereG G p
  · rw [addE_there h1, if_pos ((thereC_iff h).2 h1)]
  rw [if_neg (fun k => h1 ((thereC_iff h).1 k))]
  by_cases h2 : ¬ Formed p
  · rw [addE_form h1 h2, if_pos (by
      cases e : formedC p with
      | false => rfl
      | true => exact absurd (formedC_iff.1 e) h2)]
  have h2 := Classical.not_not.1 h2
  rw [if_neg (by rw [formedC_iff.2 h2]; simp)]
  have hh : ∀ v, hasC ps v = false ↔ ¬ HasG G v := fun v => by
    rw [h.has, ← hasC_iff]; simp
  have hg : (p.gone.any fun v => !decide (v ∈ allV ps)) = true ↔ ∃ v ∈ p.gone, v ∉ mks G.nodes := by
    simp only [List.any_eq_true, Bool.not_eq_true', decide_eq_false_iff_not, h.keys]
  by_cases h3 : ¬ HasG G p.up ∨ ¬ HasG G p.down ∨ ∃ v ∈ p.gone, v ∉ mks G.nodes
  · rw [addE_dep h1 h2 h3, if_pos]
    simp only [Bool.or_eq_true, Bool.not_eq_true', hh, hg, or_assoc]
    exact h3
  rw [if_neg (by
    simp only [Bool.or_eq_true, Bool.not_eq_true', hh, hg, or_assoc]
    exact h3)]
  have k1 : HasG G p.up := Classical.byContradiction fun k => h3 (.inl k)
  have k2 : HasG G p.down := Classical.byContradiction fun k => h3 (.inr (.inl k))
  have k3 : ∀ v ∈ p.gone, v ∈ mks G.nodes := fun v hv => Classical.byContradiction fun k => h3 (.inr (.inr ⟨v, hv, k⟩))
  rw [addE_bef h1 h2 k1 k2 k3]
  have hb : befB G p.up p.down = befC ps p.up p.down := by
    rw [Bool.eq_iff_iff, befB_iff, h.bef hs, befC_iff hc]
  rw [hb]
  simp only [Bool.not_eq_true']
/-- this part can come -/
def newC (ps : List PartP) (p : PartP) : Bool := decide (addC ps p = 0) && closedB (allE ps) p.up
theorem newC_new {ps : List PartP} {p : PartP} (hs : Sq ps) (hi : ∃ G, GP.Inv ps G) (h : newC ps p = true) : New ps p := by
  unfold newC at h
  rw [Bool.and_eq_true, decide_eq_true_eq] at h
  obtain ⟨G, hG⟩ := hi
  exact (addE_zero hG hs).1 ((addC_eq hG hs h.2).trans h.1)
def Comes : List PartP → List PartP → Prop
  | _, [] => True
  | ps, p :: r => New ps p ∧ Comes (p :: ps) r
end Go.Proofs.Gr

set_option linter.unusedVariables false
set_option linter.unusedSimpArgs false
namespace Go.Proofs.Gr
open Go.SL Go.RowKit Go.Proofs Go.GP
set_option maxHeartbeats 1000000
/-- a part's rows read so -/
structure PartRd (w0 : World) (S : SS) (p : PartM) : Prop where
  rdL : Rd w0 S p.LA (strs p.lines)
  rdG : Rd w0 S p.GA (vtxs p.gone)
  rng : PartR p
  small : p.lines.length ≤ 100 ∧ p.gone.length ≤ 100
theorem PartRd.mono {w0 : World} {S S' : SS} {p : PartM} (h : PartRd w0 S p) (hs : Over S S') : PartRd w0 S' p := ⟨h.rdL.mono hs, h.rdG.mono hs, h.rng, h.small⟩
theorem Comes.at : ∀ {l : List PartP} {ps : List PartP} {k : Nat} (h : Comes ps l) (hk : k < l.length), New ((l.take k).reverse ++ ps) l[k]
  | [], _, _, _, hk => by simp at hk
  | p :: r, ps, 0, h, _ => by simpa using h.1
  | p :: r, ps, k + 1, h, hk => by
    have := Comes.at (k := k) h.2 (by simpa using hk)
    simpa using this
theorem over_nil {S : SS} : Over [] S := fun q h => by simp at h
def q1 : PartP := (p1 0).pl
def q2 : PartP := (p2 0).pl
def q3 : PartP := (p3 0 0).pl
def rngC (p : PartP) : Bool := decide (-9223372036854775808 ≤ p.at_ ∧ p.at_ ≤ 9223372036854775807) && decide (-9223372036854775808 ≤ p.first ∧ p.first ≤ 4611686018427387904) && decide (p.lines.length ≤ 100) && decide (p.gone.length ≤ 100) && decide (-9223372036854775808 ≤ p.up.2 ∧ p.up.2 ≤ 9223372036854775807) && decide (-9223372036854775808 ≤ p.down.2 ∧ p.down.2 ≤ 9223372036854775807) && p.gone.all fun v => decide (-9223372036854775808 ≤ v.2 ∧ v.2 ≤ 9223372036854775807)
theorem rd_of {w0 : World} {S : SS} {p : PartM} (hL : Rd w0 S p.LA (strs p.lines)) (hG : Rd w0 S p.GA (vtxs p.gone)) (h : rngC p.pl = true) (hc : p.gone.length ≤ p.gc) (hn : p.GA = none → p.gc = 0) : PartRd w0 S p := by
  unfold rngC at h
  simp only [Bool.and_eq_true, decide_eq_true_eq, List.all_eq_true] at h
  obtain ⟨⟨⟨⟨⟨⟨h1, h2⟩, h3⟩, h4⟩, h5⟩, h6⟩, h7⟩ := h
  have h3' : p.lines.length ≤ 100 := h3
  have h4' : p.gone.length ≤ 100 := h4
  exact ⟨hL, hG, ⟨h1, h2, by omega, by omega, hc, hn, h5, h6, h7⟩, h3', h4'⟩
end Go.Proofs.Gr

set_option linter.unusedVariables false
set_option linter.unusedSimpArgs false
namespace Go.Proofs.Gr
open Go.SL Go.RowKit Go.Proofs Go.GP
set_option maxHeartbeats 1000000
theorem GG.okV {w0 : World} {X : SS} {m : GrM} {ps : List PartP} (h : GG w0 X m ps) {v : Vtx} (hv : v ∈ allV ps) : Gr.okV v := by
  have hk : mks m.gr.nodes = mks m.nodes := mks_plN _
  have hv2 := (h.inv.keys v).2 hv
  rw [hk] at hv2
  obtain ⟨n, hn⟩ := mem_mks.1 hv2
  exact h.ok.nk _ (mgt_some_mem hn)
end Go.Proofs.Gr

set_option linter.unusedVariables false
set_option linter.unusedSimpArgs false
namespace Go.Proofs.Gr
open Go.SL Go.RowKit Go.Proofs Go.GP
set_option maxHeartbeats 1000000
def gidx {α : Type} (q : α → Bool) (l : List α) : Int := match l.findIdx? q with | some k => (k : Int) | none => -1
theorem gidx_take {α : Type} {q : α → Bool} {l : List α} {k : Nat} (hk : k < l.length) (h : ∀ x ∈ l.take k, q x = false) (hq : q l[k] = true) : gidx q l = (k : Int) := by
  unfold gidx
  have : l.findIdx? q = some k := by
    rw [List.findIdx?_eq_some_iff_getElem]
    refine ⟨hk, hq, fun j hj => ?_⟩
    have := h l[j] (List.mem_take_iff_getElem.2 ⟨j, by omega, rfl⟩)
    simp [this]
  rw [this]
theorem gidx_no {α : Type} {q : α → Bool} {l : List α} (h : ∀ x ∈ l, q x = false) : gidx q l = -1 := by
  unfold gidx
  have : l.findIdx? q = none := by rw [List.findIdx?_eq_none_iff]; exact h
  rw [this]
theorem gidx_any {α : Type} {q : α → Bool} {l : List α} : (gidx q l ≥ 0) = (l.any q = true) := by
  unfold gidx
  apply propext
  cases h : l.findIdx? q with
  | none =>
    have := List.findIdx?_eq_none_iff.1 h
    simp only [List.any_eq_true]
    constructor
    · intro h; omega
    · rintro ⟨x, hx, hq⟩; rw [this x hx] at hq; cases hq
  | some k =>
    obtain ⟨h1, h2, _⟩ := List.findIdx?_eq_some_iff_getElem.1 h
    simp only [List.any_eq_true]
    exact ⟨fun _ => ⟨_, List.getElem_mem h1, h2⟩, fun _ => by omega⟩
theorem gidx_cases {α : Type} (q : α → Bool) (l : List α) : (gidx q l = -1 ∧ ∀ x ∈ l, q x = false) ∨ ∃ k, ∃ h : k < l.length, gidx q l = (k : Int) ∧ q l[k] = true ∧ ∀ x ∈ l.take k, q x = false := by
  unfold gidx
  cases h : l.findIdx? q with
  | none => exact .inl ⟨rfl, List.findIdx?_eq_none_iff.1 h⟩
  | some k =>
    obtain ⟨h1, h2, h3⟩ := List.findIdx?_eq_some_iff_getElem.1 h
    refine .inr ⟨k, h1, rfl, h2, fun x hx => ?_⟩
    obtain ⟨j, hj, rfl⟩ := List.mem_take_iff_getElem.1 hx
    have := h3 j (by omega)
    simpa using this
theorem lineV_box (x : LineP) : (lineV x).cells.toList = lineC x := rfl
abbrev lseg (r : Nat) (x : LineP) : Seg := [(r, .cells (lineC x) 43 35)]
theorem line_st {w0 : World} {S : SS} {P : Program} {n r : Nat} {T : TT} {x v : PV} {u : LineP} {z : List Value} (hx : x.val T = some (.pointer (some ⟨r, 0, none⟩))) (hv : v.val T = some (lineV u)) (hz : z.length = 35) :
    OW P w0 n (.st 35 x v) T ([(r, .cells z 43 35)] :: S) (fun _ S' => S' = lseg r u :: S) := by
  refine (OW.st (k := 0) (c := z) (u := lineV u) hx hv rfl ((List.size_toArray).trans (lineC_len u)) (by omega) (lineC_one u)).mono ?_
  rintro _ _ rfl
  rw [lineV_box, setAll (by rw [lineC_len, hz])]
  rfl
section
variable {w0 : World} {S : SS} {r E tot : Nat} {x : LineP}
theorem lcell (hm : (r, AO.cells (lineC x) E tot) ∈ S.flatten) : ∀ (j : Nat) (v : Value), (lineC x)[j]? = some v → Cell w0 S ((⟨r, 0, none⟩ : Addr).add j) v := all_at hm
theorem lcell_vtx (hm : (r, AO.cells (lineC x) E tot) ∈ S.flatten) : ∀ (j : Nat) (v : Value), (vtxL x.v)[j]? = some v → Cell w0 S (((⟨r, 0, none⟩ : Addr).add 0).add j) v := fun j v hj => by
  have := lcell (w0 := w0) hm j v (by unfold lineC; rw [List.getElem?_append_left (List.getElem?_eq_some_iff.1 hj).1]; exact hj)
  simpa [Addr.add_lit] using this
theorem lcell_text (hm : (r, AO.cells (lineC x) E tot) ∈ S.flatten) : Cell w0 S ((⟨r, 0, none⟩ : Addr).add 33) (.string x.text) := lcell hm _ _ (lineC_text x).1
theorem lcell_alive (hm : (r, AO.cells (lineC x) E tot) ∈ S.flatten) : Cell w0 S ((⟨r, 0, none⟩ : Addr).add 34) (.bool x.alive) := lcell hm _ _ (lineC_text x).2
end
theorem lines_app (a b : List LineP) : lines (a ++ b) = lines a ++ lines b := by unfold lines; rw [List.flatMap_append]
theorem lines_set {q : List LineP} {i : Nat} (hi : i < q.length) (v : LineP) : setAt (lines q) (i * 35) (lineC v) = lines (q.set i v) := by
  have hl := lines_len q
  have hv := lineC_len v
  have e : q = q.take i ++ q[i] :: q.drop (i + 1) := by rw [List.getElem_cons_drop, List.take_append_drop]
  have e1 : (lines (q.take i)).length = i * 35 := by rw [lines_len, List.length_take, Nat.min_eq_left (by omega)]
  have e2 : lines q = lines (q.take i) ++ (lineC q[i] ++ lines (q.drop (i + 1))) := by
    have : lines (q[i] :: q.drop (i + 1)) = lineC q[i] ++ lines (q.drop (i + 1)) := by unfold lines; rw [List.flatMap_cons]
    rw [← this, ← lines_app, ← e]
  have hq := lineC_len q[i]
  rw [setAt_eq _ _ _ (by omega), e2, List.take_append_of_le_length (by omega), List.take_of_length_le (by omega), hv, List.drop_append, List.drop_eq_nil_of_le (by omega), e1, show i * 35 + 35 - i * 35 = 35 by omega, List.drop_append, List.drop_eq_nil_of_le (by omega), hq, List.set_eq_take_append_cons_drop, if_pos hi, lines_app]
  unfold lines
  simp
theorem madeL_len (z : List Value) (n : Nat) : (madeL z n).length = n := by simp [madeL]
theorem made_one {z : List Value} (hz : z.all (·.oneCell') = true) (h0 : 0 < z.length) (n : Nat) : (madeL z n).all (·.oneCell') = true := by
  rw [List.all_eq_true]
  intro v hv
  obtain ⟨i, _, rfl⟩ := List.mem_map.1 hv
  have hlt := Nat.mod_lt i h0
  have : z.getD (i % z.length) undef = z[i % z.length] := by simp [List.getD, List.getElem?_eq_getElem hlt]
  rw [this]
  exact List.all_eq_true.1 hz _ (List.getElem_mem hlt)
theorem indexFuncL_fc {w0 : World} {S : SS} {A : Option Addr} {c : Nat} {l : List LineP} {g : FuncId} {ca : List Value} {q : LineP → Bool} (hx : Rd w0 S A (lines l)) (hb : l.length ≤ 1000000000000) (hok : fnOk Try.prog g = true)
    (hq : ∀ x ∈ l, FC Try.prog w0 g ([] ++ [lineV x] ++ ca) S (fun u S' => u = .bool (q x) ∧ S' = S)) :
    FC Try.prog w0 96 [.slice A l.length c, .func (.func g) #[] ca.toArray] S (fun u S' => u = .int .i64 (gidx q l) ∧ S' = S) := by
  refine FC.of Try.known96 (by simp) ?_
  unfold Try.pc96
  simp only [argT]
  refine PW.seqOps ?_
  refine OL.dp rfl ?_
  refine OL.nil ?_
  refine PW.keep (T' := [(0, _), (1, _)]) ⟨rfl, rfl, trivial⟩ ?_
  refine PW.seq fun K1 hK1 => ?_
  refine PW.seqOps ?_
  refine OL.dp rfl ?_
  refine OL.dp rfl ?_
  refine OL.dp rfl ?_
  refine OL.nil ?_
  refine PW.keep (T' := [(0, _), (1, _), (7, _), (8, _)]) ⟨rfl, rfl, rfl, rfl, trivial⟩ ?_
  refine PW.block ?_
  refine PW.keep (T' := [(0, _), (1, _), (7, _), (8, _)]) ⟨rfl, rfl, rfl, rfl, trivial⟩ ?_
  refine PW.loopK (I := fun m T S' => ∃ (k : Nat), (k ≤ l.length ∧ m = l.length - k ∧ ∀ x ∈ l.take k, q x = false) ∧ T = ([(0, .slice A l.length c), (1, .func (.func g) #[] ca.toArray), (7, .int .i64 (l.length : Int)), (8, .int .i64 k)] : TT) ∧ S' = S) (m := l.length) ⟨0, ⟨by omega, by omega, by simp⟩, rfl, rfl⟩ ?_
  rintro m _ _ ⟨k, ⟨hk, hm, hall⟩, rfl, rfl⟩
  refine PW.seqOps ?_
  refine OL.dp rfl ?_
  refine OL.nil ?_
  refine PW.keep (T' := [(0, _), (1, _), (7, _), (8, _), (9, _)]) ⟨rfl, rfl, rfl, rfl, rfl, trivial⟩ ?_
  refine PW.seq fun K2 hK2 => ?_
  refine PW.cond rfl (fun c9 => ?_) (fun c9 => ?_)
  · try simp only [decide_eq_true_eq, decide_eq_false_iff_not, beq_iff_eq, bne_iff_ne, beq_eq_false_iff_ne, bne_eq_false_iff_eq, Bool.not_eq_true', Bool.not_eq_false', Bool.not_eq_true, ne_eq, Decidable.not_not, Bool.false_eq_true, if_false, if_true] at c9
    have hkl : k < l.length := by omega
    obtain ⟨a0, rfl⟩ := lines_some hx (by omega)
    refine PW.skip ?_
    refine hK2 _ _ ?_
    refine PW.keep (T' := [(0, _), (1, _), (7, _), (8, _)]) ⟨rfl, rfl, rfl, rfl, trivial⟩ ?_
    refine PW.seq fun K3 hK3 => ?_
    refine PW.block ?_
    refine PW.seqOps ?_
    refine OL.dp rfl ?_
    refine OL.dp rfl ?_
    refine OL.nil ?_
    refine PW.keep (T' := [(0, _), (1, _), (5, _), (7, _), (8, _)]) ⟨rfl, rfl, rfl, rfl, rfl, trivial⟩ ?_
    refine PW.seqOps ?_
    refine OL.dp rfl ?_
    refine OL.dp rfl ?_
    refine OL.dp rfl ?_
    refine OL.det trivial (Yields.ixN rfl rfl rfl (by omega)) ?_
    refine OL.det trivial (Yields.ldA rfl (lineC_len _) (line_at hx hkl)) ?_
    refine OL.cons trivial (OW.callv (fi := []) (ca := ca) rfl hok rfl (hq _ (List.getElem_mem hkl))) ?_
    rintro _ Sx ⟨rfl, hSx⟩
    rw [hSx]
    clear hSx
    refine OL.nil ?_
    refine PW.keep (T' := [(0, _), (1, _), (5, _), (7, _), (8, _), (16, _)]) ⟨rfl, rfl, rfl, rfl, rfl, rfl, trivial⟩ ?_
    refine PW.cond rfl (fun c16 => ?_) (fun c16 => ?_)
    · skip
      have hqt : q l[k] = true := by simpa using c16
      refine PW.seqOps ?_
      refine OL.dp rfl ?_
      refine OL.dp rfl ?_
      refine OL.nil ?_
      refine PW.keep (T' := [(4, _)]) ⟨rfl, trivial⟩ ?_
      refine PW.ret ?_
      change (Exit.ret = Exit.normal ∨ Exit.ret = Exit.ret) ∧ ∃ v, resV _ _ = some v ∧ _
      exact ⟨.inr rfl, _, rfl, by rw [gidx_take hkl hall hqt], rfl⟩
    · skip
      refine PW.skip ?_
      refine hK3 _ _ ?_
      refine PW.keep (T' := [(0, _), (1, _), (7, _), (8, _)]) ⟨rfl, rfl, rfl, rfl, trivial⟩ ?_
      refine PW.ops ?_
      refine OL.det trivial (Yields.add64 rfl rfl (by omega) (by omega)) ?_
      refine OL.dp rfl ?_
      refine OL.nil ?_
      repeat rw [inBlk_n]
      try rw [thenK_n]
      refine LoopEnd.mk (T'' := [(0, _), (1, _), (7, _), (8, _)]) ⟨rfl, rfl, rfl, rfl, trivial⟩ ?_
      refine ⟨l.length - (k + 1), by omega, k + 1, ⟨by omega, rfl, fun x hx => ?_⟩, rfl, rfl⟩
      rw [ltake_snoc hkl] at hx
      rcases List.mem_append.1 hx with h | h
      · exact hall x h
      · rw [List.mem_singleton] at h; subst h; simpa using c16
  · try simp only [decide_eq_true_eq, decide_eq_false_iff_not, beq_iff_eq, bne_iff_ne, beq_eq_false_iff_ne, bne_eq_false_iff_eq, Bool.not_eq_true', Bool.not_eq_false', Bool.not_eq_true, ne_eq, Decidable.not_not, Bool.false_eq_true, if_false, if_true] at c9
    refine PW.exit ?_
    refine hK1 _ _ ?_
    refine PW.keep (T' := []) trivial ?_
    refine PW.seqOps ?_
    refine OL.dp rfl ?_
    refine OL.nil ?_
    refine PW.keep (T' := [(4, _)]) ⟨rfl, trivial⟩ ?_
    refine PW.ret ?_
    change (Exit.ret = Exit.normal ∨ Exit.ret = Exit.ret) ∧ ∃ v, resV _ _ = some v ∧ _
    exact ⟨.inr rfl, _, rfl, by rw [gidx_no (fun x hx => hall x (by rw [List.take_of_length_le (by omega)]; exact hx))], rfl⟩
theorem dead_fc {w0 : World} {S : SS} {x : LineP} : FC Try.prog w0 70 [lineV x] S (fun v S' => v = .bool (!x.alive) ∧ S' = S) := by
  refine FC.ofD Try.known70 (by simp) ?_
  unfold Try.pc70
  simp only [argT]
  refine PW.seqOps ?_
  refine OL.cons trivial (OW.bx rfl) ?_
  rintro _ _ ⟨r1, rfl, rfl⟩
  rw [lineV_box, lineC_len]
  refine OL.dp rfl ?_
  refine OL.nil ?_
  refine PW.keep (T' := [(1, _)]) ⟨rfl, trivial⟩ ?_
  refine PW.seqOps ?_
  refine OL.dp rfl ?_
  refine OL.det trivial (Yields.ld rfl (lcell_alive (x := x) (E := 43) (tot := 35) (List.mem_flatten.2 ⟨_, .head _, List.mem_singleton.2 rfl⟩))) ?_
  refine OL.dp rfl ?_
  refine OL.dp rfl ?_
  refine OL.nil ?_
  refine PW.keep (T' := [(2, _)]) ⟨rfl, trivial⟩ ?_
  refine PW.ret ?_
  change (Exit.ret = Exit.normal ∨ Exit.ret = Exit.ret) ∧ ∃ v, resV _ _ = some v ∧ _
  exact ⟨.inr rfl, _, rfl, _, Sub.drop (Sub.refl _), rfl, rfl⟩
def live (l : List LineP) : List LineP := l.filter (·.alive)
theorem live_snoc {l : List LineP} {j : Nat} (hj : j < l.length) : live (l.take (j + 1)) = if l[j].alive then live (l.take j) ++ [l[j]] else live (l.take j) := by
  unfold live
  rw [ltake_snoc hj, List.filter_append, List.filter_cons, List.filter_nil]
  split <;> simp
theorem live_len (l : List LineP) : (live l).length ≤ l.length := List.length_filter_le _ _
structure Pack (l R : List LineP) (i j : Nat) : Prop where
  jl : j ≤ l.length
  n : R.length = l.length
  ij : i < j
  pre : R.take i = live (l.take j)
  suf : R.drop j = l.drop j
theorem Pack.at {l R : List LineP} {i j : Nat} (h : Pack l R i j) (hj : j < l.length) : R[j]'(by have := h.n; omega) = l[j] := by
  have h1 := h.suf
  have hR : j < R.length := by have := h.n; omega
  have h2 : (R.drop j)[0]? = (l.drop j)[0]? := by rw [h1]
  rw [List.getElem?_drop, List.getElem?_drop, Nat.add_zero, List.getElem?_eq_getElem hR, List.getElem?_eq_getElem hj] at h2
  exact Option.some.inj h2
theorem Pack.keep {l R : List LineP} {i j : Nat} (h : Pack l R i j) (hj : j < l.length) (ha : l[j].alive = true) : Pack l (R.set i l[j]) (i + 1) (j + 1) where
  jl := by omega
  n := by rw [List.length_set]; exact h.n
  ij := by have := h.ij; omega
  pre := by
    have hi := h.ij
    have hR := h.n
    rw [live_snoc hj, if_pos ha, ← h.pre, ltake_snoc (by rw [List.length_set]; omega), List.getElem_set_self, List.take_set_of_le (Nat.le_refl i)]
  suf := by
    have hi := h.ij
    have h1 : R.drop (j + 1) = l.drop (j + 1) := by
      have := congrArg (List.drop 1) h.suf
      simpa [List.drop_drop] using this
    rw [List.drop_set_of_lt (by omega)]
    exact h1
theorem Pack.skip {l R : List LineP} {i j : Nat} (h : Pack l R i j) (hj : j < l.length) (ha : l[j].alive = false) : Pack l R i (j + 1) where
  jl := by omega
  n := h.n
  ij := by have := h.ij; omega
  pre := by rw [live_snoc hj, if_neg (by rw [ha]; simp)]; exact h.pre
  suf := by
    have := congrArg (List.drop 1) h.suf
    simpa [List.drop_drop] using this
theorem lines_take {l : List LineP} {i : Nat} (hi : i ≤ l.length) : (lines l).take (i * 35) = lines (l.take i) := by
  have e : lines l = lines (l.take i) ++ lines (l.drop i) := by rw [← lines_app, List.take_append_drop]
  have e1 : (lines (l.take i)).length = i * 35 := by rw [lines_len, List.length_take, Nat.min_eq_left hi]
  rw [e, List.take_append_of_le_length (by omega), List.take_of_length_le (by omega)]
theorem setAt_take {c d : List Value} {o : Nat} (h : o + d.length ≤ c.length) : (setAt c o d).take o = c.take o := by
  rw [setAt_eq _ _ _ h, List.append_assoc, List.take_append_of_le_length (by rw [List.length_take]; omega), List.take_take, Nat.min_self]
def zLine : LineP := ⟨v0, ⟨#[]⟩, false⟩
theorem deleteDead_fc {w0 : World} {S : SS} {A : Option Addr} {c : Nat} {l : List LineP} {seg : Seg} (h : SlV 43 35 (.slice A l.length c) l.length (lines l) seg) (hb : l.length ≤ 1000000000) :
    FC Try.prog w0 69 [.slice A l.length c, .func (.func 70) #[] #[]] (seg :: S) (fun v S' => ∃ seg', S' = seg' :: S ∧ SlV 43 35 v (live l).length (lines (live l)) seg') := by
  obtain ⟨A2, c2, e2, hnA, hcA, hrd0⟩ := slv_rdL (w0 := w0) h
  obtain ⟨rfl, rfl⟩ : A = A2 ∧ c = c2 := by simpa using e2
  have hrd := hrd0 S
  refine FC.ofD Try.known69 (by simp) ?_
  unfold Try.pc69
  simp only [argT]
  refine PW.seqOps ?_
  refine OL.dp rfl ?_
  refine OL.nil ?_
  refine PW.keep (T' := [(0, _), (1, _)]) ⟨rfl, rfl, trivial⟩ ?_
  refine PW.seqOps ?_
  refine OL.dp rfl ?_
  refine OL.dp rfl ?_
  refine OL.call trivial rfl (indexFuncL_fc (g := 70) (ca := []) (q := fun x => !x.alive) hrd (by omega) (by kernel_rfl) (fun x _ => dead_fc)) ?_
  rintro _ Sx ⟨rfl, hSx⟩
  rw [hSx]
  clear hSx
  obtain ⟨iz, hiz⟩ : ∃ z, z = gidx (fun x : LineP => !x.alive) l := ⟨_, rfl⟩
  have hcs := gidx_cases (fun x : LineP => !x.alive) l
  rw [← hiz] at hcs ⊢
  refine OL.dp rfl ?_
  refine OL.nil ?_
  refine PW.keep (T' := [(0, _), (1, _), (5, _)]) ⟨rfl, rfl, rfl, trivial⟩ ?_
  refine PW.seq fun K1 hK1 => ?_
  refine PW.seqOps ?_
  refine OL.dp rfl ?_
  refine OL.dp rfl ?_
  refine OL.nil ?_
  refine PW.keep (T' := [(0, _), (1, _), (5, _), (12, _)]) ⟨rfl, rfl, rfl, rfl, trivial⟩ ?_
  refine PW.cond rfl (fun c12 => ?_) (fun c12 => ?_)
  · skip
    have hi1 : iz = -1 := by simpa using c12
    have hall : ∀ x ∈ l, (!x.alive) = false := by
      rcases hcs with ⟨_, h⟩ | ⟨k, hk, e, _⟩
      · exact h
      · omega
    have hlv : live l = l := List.filter_eq_self.2 fun x hx => by have := hall x hx; simpa using this
    refine PW.seqOps ?_
    refine OL.dp rfl ?_
    refine OL.dp rfl ?_
    refine OL.nil ?_
    refine PW.keep (T' := [(4, _)]) ⟨rfl, trivial⟩ ?_
    refine PW.ret ?_
    change (Exit.ret = Exit.normal ∨ Exit.ret = Exit.ret) ∧ ∃ v, resV _ _ = some v ∧ _
    rw [← hlv] at h
    exact ⟨.inr rfl, _, rfl, _, Sub.refl _, seg, rfl, by rw [hlv] at h ⊢; exact h⟩
  · skip
    have hi1 : iz ≠ -1 := by simpa using c12
    obtain ⟨i0, hi0, rfl, hdead, hpre⟩ : ∃ k, ∃ h : k < l.length, iz = (k : Int) ∧ l[k].alive = false ∧ ∀ x ∈ l.take k, x.alive = true := by
      rcases hcs with ⟨e, _⟩ | ⟨k, hk, e, h1, h2⟩
      · exact absurd e hi1
      · exact ⟨k, hk, e, by simpa using h1, fun x hx => by have := h2 x hx; simpa using this⟩
    obtain ⟨r, c3, e3, rfl, hlc, hcm⟩ := slv_own h (by omega)
    obtain ⟨rfl, rfl⟩ : A = some ⟨r, 0, none⟩ ∧ c = c3 := by simpa using e3
    have hp0 : Pack l l i0 (i0 + 1) := ⟨by omega, rfl, by omega, by
      rw [live_snoc hi0, if_neg (by rw [hdead]; simp)]
      exact (List.filter_eq_self.2 hpre).symm, rfl⟩
    refine PW.skip ?_
    refine hK1 _ _ ?_
    refine PW.keep (T' := [(0, _), (1, _), (5, _)]) ⟨rfl, rfl, rfl, trivial⟩ ?_
    refine PW.seq fun K2 hK2 => ?_
    refine PW.seqOps ?_
    refine OL.dp rfl ?_
    refine OL.det trivial (Yields.to (v' := .int .i64 ((i0 + 1 : Nat) : Int)) (Yields.add64 rfl rfl (by omega) (by omega)) rfl) ?_
    refine OL.dp rfl ?_
    refine OL.nil ?_
    refine PW.keep (T' := [(0, _), (1, _), (5, _), (6, _)]) ⟨rfl, rfl, rfl, rfl, trivial⟩ ?_
    refine PW.block ?_
    refine PW.keep (T' := [(0, _), (1, _), (5, _), (6, _)]) ⟨rfl, rfl, rfl, rfl, trivial⟩ ?_
    refine PW.loopK (I := fun mm T S' => ∃ (i j : Nat) (R : List LineP), (Pack l R i j ∧ mm = l.length - j) ∧ T = ([(0, .slice (some ⟨r, 0, none⟩) l.length c), (1, .func (.func 70) #[] #[]), (5, .int .i64 i), (6, .int .i64 j)] : TT) ∧ S' = [(r, .cells (lines R) 43 (c * 35))] :: S) (m := l.length - (i0 + 1)) ⟨i0, i0 + 1, l, ⟨hp0, by omega⟩, rfl, rfl⟩ ?_
    rintro mm _ _ ⟨i, j, R, ⟨hp, hmm⟩, rfl, rfl⟩
    refine PW.seq fun K3 hK3 => ?_
    refine PW.seqOps ?_
    refine OL.dp rfl ?_
    refine OL.dp rfl ?_
    refine OL.dp rfl ?_
    refine OL.dp rfl ?_
    refine OL.nil ?_
    refine PW.keep (T' := [(0, _), (1, _), (5, _), (6, _), (19, _)]) ⟨rfl, rfl, rfl, rfl, rfl, trivial⟩ ?_
    refine PW.cond rfl (fun c19 => ?_) (fun c19 => ?_)
    · try simp only [decide_eq_true_eq, decide_eq_false_iff_not, beq_iff_eq, bne_iff_ne, beq_eq_false_iff_ne, bne_eq_false_iff_eq, Bool.not_eq_true', Bool.not_eq_false', Bool.not_eq_true, ne_eq, Decidable.not_not, Bool.false_eq_true, if_false, if_true] at c19
      have hjl : j < l.length := by omega
      have hRn := hp.n
      have hpi := hp.ij
      have hrdR : Rd w0 ([(r, .cells (lines R) 43 (c * 35))] :: S) (some ⟨r, 0, none⟩) (lines R) := Rd.own (E := 43) (tot := c * 35) (by simp)
      refine PW.skip ?_
      refine hK3 _ _ ?_
      refine PW.keep (T' := [(0, _), (1, _), (5, _), (6, _)]) ⟨rfl, rfl, rfl, rfl, trivial⟩ ?_
      refine PW.seq fun K4 hK4 => ?_
      refine PW.block ?_
      refine PW.seqOps ?_
      refine OL.dp rfl ?_
      refine OL.dp rfl ?_
      refine OL.det trivial (Yields.ixO rfl rfl rfl hjl) ?_
      refine OL.det trivial (Yields.ldA rfl (lineC_len _) ((fun i v hv => by have := line_at (k := j) hrdR (by omega) i v hv; simpa [Addr.add_lit] using this : ∀ (i : Nat) (v : Value), (lineC (R[j]'(by omega)))[i]? = some v → Cell w0 ([(r, .cells (lines R) 43 (c * 35))] :: S) ((⟨r, j * 35, none⟩ : Addr).add i) v))) ?_
      refine OL.cons trivial OW.al ?_
      rintro _ _ ⟨r7, rfl, rfl⟩
      rw [hp.at hjl]
      refine OL.cons trivial (line_st rfl rfl rfl) ?_
      rintro _ _ rfl
      refine OL.nil ?_
      refine PW.keep (T' := [(0, _), (1, _), (5, _), (6, _), (7, _)]) ⟨rfl, rfl, rfl, rfl, rfl, trivial⟩ ?_
      refine PW.seqOps ?_
      refine OL.dp rfl ?_
      refine OL.det trivial (Yields.ldA rfl (lineC_len _) (lcell (x := l[j]) (E := 43) (tot := 35) (List.mem_flatten.2 ⟨_, .head _, List.mem_singleton.2 rfl⟩))) ?_
      refine OL.cons trivial (OW.callv (fi := []) (ca := []) rfl (by kernel_rfl) rfl dead_fc) ?_
      rintro _ Sx ⟨rfl, hSx⟩
      rw [hSx]
      clear hSx
      refine OL.dp rfl ?_
      refine OL.nil ?_
      refine PW.keep (T' := [(0, _), (1, _), (5, _), (6, _), (7, _), (29, _)]) ⟨rfl, rfl, rfl, rfl, rfl, rfl, trivial⟩ ?_
      refine PW.cond rfl (fun c29 => ?_) (fun c29 => ?_)
      · skip
        have hal : l[j].alive = true := by simpa using c29
        refine PW.seqOps ?_
        refine OL.dp rfl ?_
        refine OL.dp rfl ?_
        refine OL.det trivial (Yields.ldA rfl (lineC_len _) (lcell (x := l[j]) (E := 43) (tot := 35) (List.mem_flatten.2 ⟨_, .head _, List.mem_singleton.2 rfl⟩))) ?_
        refine OL.det trivial (Yields.ixO rfl rfl rfl (by omega)) ?_
        refine OL.cons trivial (OW.st (k := 1) (c := lines R) (u := lineV l[j]) rfl rfl rfl ((List.size_toArray).trans (lineC_len _)) (by rw [lines_len]; omega) (lineC_one _)) ?_
        rintro _ _ rfl
        rw [lineV_box, lines_set (by omega)]
        refine OL.nil ?_
        refine PW.keep (T' := [(0, _), (1, _), (5, _), (6, _)]) ⟨rfl, rfl, rfl, rfl, trivial⟩ ?_
        refine PW.ops ?_
        refine OL.dp rfl ?_
        refine OL.det trivial (Yields.add64 rfl rfl (by omega) (by omega)) ?_
        refine OL.dp rfl ?_
        refine OL.nil ?_
        refine hK4 _ _ ?_
        refine PW.keep (T' := [(0, _), (1, _), (5, _), (6, _)]) ⟨rfl, rfl, rfl, rfl, trivial⟩ ?_
        refine PW.ops ?_
        refine OL.dp rfl ?_
        refine OL.det trivial (Yields.add64 rfl rfl (by omega) (by omega)) ?_
        refine OL.dp rfl ?_
        refine OL.nil ?_
        repeat rw [inBlk_n]
        try rw [thenK_n]
        refine LoopEnd.mkS (Sub.drop (Sub.refl _)) (T'' := [(0, _), (1, _), (5, _), (6, _)]) ⟨rfl, rfl, rfl, rfl, trivial⟩ ?_
        first
          | exact ⟨l.length - (j + 1), by omega, i + 1, j + 1, R.set i l[j], ⟨hp.keep hjl hal, rfl⟩, rfl, rfl⟩
          | exact ⟨l.length - (j + 1), by omega, i, j + 1, R, ⟨hp.skip hjl hal, rfl⟩, rfl, rfl⟩
      · skip
        have hal : l[j].alive = false := by simpa using c29
        refine PW.skip ?_
        refine hK4 _ _ ?_
        refine PW.keep (T' := [(0, _), (1, _), (5, _), (6, _)]) ⟨rfl, rfl, rfl, rfl, trivial⟩ ?_
        refine PW.ops ?_
        refine OL.dp rfl ?_
        refine OL.det trivial (Yields.add64 rfl rfl (by omega) (by omega)) ?_
        refine OL.dp rfl ?_
        refine OL.nil ?_
        repeat rw [inBlk_n]
        try rw [thenK_n]
        refine LoopEnd.mkS (Sub.drop (Sub.refl _)) (T'' := [(0, _), (1, _), (5, _), (6, _)]) ⟨rfl, rfl, rfl, rfl, trivial⟩ ?_
        first
          | exact ⟨l.length - (j + 1), by omega, i + 1, j + 1, R.set i l[j], ⟨hp.keep hjl hal, rfl⟩, rfl, rfl⟩
          | exact ⟨l.length - (j + 1), by omega, i, j + 1, R, ⟨hp.skip hjl hal, rfl⟩, rfl, rfl⟩
    · try simp only [decide_eq_true_eq, decide_eq_false_iff_not, beq_iff_eq, bne_iff_ne, beq_eq_false_iff_ne, bne_eq_false_iff_eq, Bool.not_eq_true', Bool.not_eq_false', Bool.not_eq_true, ne_eq, Decidable.not_not, Bool.false_eq_true, if_false, if_true] at c19
      have hpi := hp.ij
      have hRn := hp.n
      have hpj := hp.jl
      obtain rfl : j = l.length := by omega
      have hpp := hp.pre
      rw [List.take_length] at hpp
      refine PW.exit ?_
      refine hK2 _ _ ?_
      refine PW.keep (T' := [(0, _), (5, _)]) ⟨rfl, rfl, trivial⟩ ?_
      refine PW.seqOps ?_
      refine OL.dp rfl ?_
      refine OL.dp rfl ?_
      refine OL.det trivial (Yields.to (v' := .slice (some ⟨r, i * 35, none⟩) (l.length - i) (c - i)) (Yields.slS (A := some ⟨r, 0, none⟩) (len := l.length) (cap := c) (l := i) (h := l.length) rfl rfl rfl (.inl rfl) (.inr ⟨rfl, rfl⟩) (by omega) (by omega)) (by unfold cutV; rw [if_neg (by omega)]; simp [Addr.add_lit])) ?_
      have hz35 : (Value.agg (lineC zLine).toArray).cells.toList = lineC zLine := rfl
      have hzl := lineC_len zLine
      have hml := madeL_len (lineC zLine) ((l.length - i) * 35)
      refine OL.cons trivial (OW.clr (k := 0) (c := lines R) (z := lineV zLine) (news := madeL (lineC zLine) ((l.length - i) * 35)) rfl rfl (by omega) (by decide) rfl (by rw [hml, lines_len]; omega) (made_one (lineC_one _) (by omega) _)) ?_
      rintro _ _ ⟨rfl, rfl⟩
      refine OL.tell (k := 0) rfl (fun w h => owns_take (i * 35) h) ?_
      change OL _ _ _ _ _ ([(r, .cells ((setAt (lines R) (i * 35) (madeL (lineC zLine) ((l.length - i) * 35))).take (i * 35)) 43 (c * 35))] :: S) _
      rw [setAt_take (by rw [hml, lines_len]; omega), lines_take (by omega)]
      refine OL.nil ?_
      refine PW.keep (T' := [(0, _), (5, _)]) ⟨rfl, rfl, trivial⟩ ?_
      refine PW.seqOps ?_
      refine OL.dp rfl ?_
      refine OL.dp rfl ?_
      refine OL.det trivial (Yields.to (v' := .slice (some ⟨r, 0, none⟩) i c) (Yields.slS (A := some ⟨r, 0, none⟩) (len := l.length) (cap := c) (l := 0) (h := i) rfl rfl rfl (.inr ⟨rfl, rfl⟩) (.inl rfl) (by omega) (by omega)) (cutV0 _ _ _ _)) ?_
      refine OL.dp rfl ?_
      refine OL.nil ?_
      refine PW.keep (T' := [(4, _)]) ⟨rfl, trivial⟩ ?_
      refine PW.ret ?_
      change (Exit.ret = Exit.normal ∨ Exit.ret = Exit.ret) ∧ ∃ v, resV _ _ = some v ∧ _
      refine ⟨.inr rfl, _, rfl, _, Sub.refl _, _, rfl, ?_⟩
      have hil : i = (live l).length := by rw [← hpp, List.length_take, hRn, Nat.min_eq_left (by omega)]
      rw [hpp]
      rw [show Value.slice (some ⟨r, 0, none⟩) i c = .slice (some ⟨r, 0, none⟩) (live l).length c from by rw [hil]]
      exact SlV.mk' (by rw [lines_len]) (by omega) hcm
end Go.Proofs.Gr

set_option linter.unusedVariables false
set_option linter.unusedSectionVars false
namespace Go.Proofs.Gr
open Go.SL Go.RowKit Go.Proofs Go.GP
structure ItemP where
  lines : List LineP
  block : Bool
  mids : List Int
noncomputable def ordP (ps : List PartP) (a b : Vtx) : Bool := befP ps a b || befP ps b a
/-- where a block's lines are not in order with the one ahead -/
noncomputable def midsK (ps : List PartP) (l : List LineP) (k : Nat) : List Int := ((List.range k).filter fun i => decide (0 < i) && !ordP ps l[i - 1]!.v l[i]!.v).map Int.ofNat
noncomputable def blockP (ps : List PartP) (l : List LineP) : ItemP := ⟨l, true, midsK ps l l.length⟩
theorem midsK_succ (ps : List PartP) (l : List LineP) (k : Nat) : midsK ps l (k + 1) = if (decide (0 < k) && !ordP ps l[k - 1]!.v l[k]!.v) = true then midsK ps l k ++ [(k : Int)] else midsK ps l k := by
  unfold midsK
  rw [List.range_succ, List.filter_append, List.map_append, List.filter_cons, List.filter_nil]
  split <;> simp
/-- in order with all -/
noncomputable def solidP (ps : List PartP) (l : List LineP) (x : LineP) : Bool := l.all fun y => decide (x.v = y.v) || ordP ps x.v y.v
noncomputable def shut (ps : List PartP) (open_ : List LineP) : List ItemP := if open_ = [] then [] else [blockP ps open_]
noncomputable def stepI (ps : List PartP) (l : List LineP) (st : List ItemP × List LineP) (x : LineP) : List ItemP × List LineP :=
  if solidP ps l x then (st.1 ++ shut ps st.2 ++ [⟨[x], false, []⟩], []) else (st.1, st.2 ++ [x])
noncomputable def foldI (ps : List PartP) (l : List LineP) (k : Nat) : List ItemP × List LineP := (l.take k).foldl (stepI ps l) ([], [])
noncomputable def itemsL (ps : List PartP) (l : List LineP) : List ItemP := (foldI ps l l.length).1 ++ shut ps (foldI ps l l.length).2
/-- the items of parts -/
noncomputable def itemsP (ps : List PartP) : List ItemP := itemsL ps (live (linesP ps))
theorem foldI_succ {ps : List PartP} {l : List LineP} {k : Nat} (hk : k < l.length) : foldI ps l (k + 1) = stepI ps l (foldI ps l k) l[k] := by
  unfold foldI
  rw [ltake_snoc hk, List.foldl_append]
  rfl
end Go.Proofs.Gr
namespace Go.Proofs.Gr
open Go.SL Go.RowKit Go.Proofs Go.GP
def beginB : ByteArray := ⟨#[62, 62, 62, 62, 62, 62, 62]⟩
def middleB : ByteArray := ⟨#[61, 61, 61, 61, 61, 61, 61]⟩
def closeB : ByteArray := ⟨#[60, 60, 60, 60, 60, 60, 60]⟩
def rowsT (x : ItemP) (k : Nat) : List ByteArray := (List.range k).flatMap fun (i : Nat) => (if x.block && x.mids.contains (i : Int) then [middleB] else []) ++ [x.lines[i]!.text]
def oneT (x : ItemP) : List ByteArray := (if x.block then [beginB] else []) ++ rowsT x x.lines.length ++ (if x.block then [closeB] else [])
def textI (l : List ItemP) : List ByteArray := l.flatMap oneT
instance : Inhabited ItemP := ⟨⟨[], false, []⟩⟩
theorem rowsT_succ (x : ItemP) (k : Nat) : rowsT x (k + 1) = rowsT x k ++ ((if x.block && x.mids.contains (k : Int) then [middleB] else []) ++ [x.lines[k]!.text]) := by
  unfold rowsT
  rw [List.range_succ, List.flatMap_append]
  simp
theorem rowsT_len (x : ItemP) : ∀ k, (rowsT x k).length ≤ 2 * k
  | 0 => by simp [rowsT]
  | k + 1 => by
    rw [rowsT_succ, List.length_append, List.length_append]
    have := rowsT_len x k
    split <;> simp <;> omega
theorem textI_snoc {l : List ItemP} {k : Nat} (hk : k < l.length) : textI (l.take (k + 1)) = textI (l.take k) ++ oneT l[k] := by
  unfold textI
  rw [ltake_snoc hk, List.flatMap_append]
  simp
theorem oneT_len (x : ItemP) : (oneT x).length ≤ 2 * x.lines.length + 2 := by
  unfold oneT
  have := rowsT_len x x.lines.length
  simp only [List.length_append]
  split <;> simp <;> omega
theorem textI_len {l : List ItemP} {N : Nat} (h : ∀ x ∈ l, x.lines.length ≤ N) : ∀ k, k ≤ l.length → (textI (l.take k)).length ≤ (2 * N + 2) * k
  | 0, _ => by simp [textI]
  | k + 1, hk => by
    rw [textI_snoc (by omega), List.length_append]
    have h1 := textI_len h k (by omega)
    have h2 := oneT_len l[k]
    have h3 := h _ (List.getElem_mem (show k < l.length by omega))
    rw [Nat.mul_succ]
    omega
end Go.Proofs.Gr

set_option linter.unusedVariables false
set_option linter.unusedSimpArgs false
namespace Go.Proofs.Gr
open Go.SL Go.RowKit Go.Proofs Go.GP
set_option maxHeartbeats 1000000
structure ItemM where
  LA : Option Addr
  lc : Nat
  lines : List LineP
  block : Bool
  MA : Option Addr
  mc : Nat
  mids : List Int
instance : Inhabited ItemM := ⟨⟨none, 0, [], false, none, 0, []⟩⟩
def ItemM.pl (x : ItemM) : ItemP := ⟨x.lines, x.block, x.mids⟩
def itemC (x : ItemM) : List Value := [.slice x.LA x.lines.length x.lc, .bool x.block, .slice x.MA x.mids.length x.mc]
def itemV (x : ItemM) : Value := .agg (itemC x).toArray
def itemS (l : List ItemM) : List Value := l.flatMap itemC
theorem itemC_len (x : ItemM) : (itemC x).length = 3 := rfl
theorem itemS_len (l : List ItemM) : (itemS l).length = l.length * 3 := by unfold itemS; rw [List.length_flatMap]; simp [itemC_len, List.map_const']
theorem itemS_app (a b : List ItemM) : itemS (a ++ b) = itemS a ++ itemS b := by unfold itemS; rw [List.flatMap_append]
theorem item_box (x : ItemM) : (itemV x).cells.toList = itemC x := rfl
theorem item_read {w0 : World} {S : SS} {r E tot : Nat} {u : ItemM} (hm : (r, AO.cells (itemC u) E tot) ∈ S.flatten) : ReadsAs w0 S (some 3) ⟨r, 0, none⟩ (itemV u) := ⟨itemC u, rfl, rfl, all_at hm⟩
theorem ints_snoc {v : Value} {l : List Int} {z : Int} {seg : Seg} (h : SlV 3 1 v (l.length + 1) (ints l ++ [Value.int .i64 z]) seg) : SlV 3 1 v (l ++ [z]).length (ints (l ++ [z])) seg := by
  rw [List.length_append]
  unfold ints at h ⊢
  rw [List.map_append]
  exact h
theorem ordered_fc {w0 : World} {S X : SS} {m : GrM} {ps : List PartP} {x y : LineP} (h : GG w0 X m ps) (hS : Over (GS m ++ X) S) (hx : okV x.v) (hy : okV y.v) :
    FC Try.prog w0 71 [m.ptr, lineV x, lineV y] S (fun v S' => v = .bool (ordP ps x.v y.v) ∧ S' = S) := by
  refine FC.ofD Try.known71 (by simp) ?_
  unfold Try.pc71
  simp only [argT]
  refine PW.seqOps ?_
  refine OL.cons trivial (OW.bx rfl) ?_
  rintro _ _ ⟨r4, rfl, rfl⟩
  rw [lineV_box, lineC_len]
  refine OL.cons trivial (OW.bx rfl) ?_
  rintro _ _ ⟨r5, rfl, rfl⟩
  rw [lineV_box, lineC_len]
  refine OL.dp rfl ?_
  refine OL.nil ?_
  refine PW.keep (T' := [(0, _), (4, _), (5, _)]) ⟨rfl, rfl, rfl, trivial⟩ ?_
  refine PW.seqOps ?_
  refine OL.dp rfl ?_
  refine OL.dp rfl ?_
  refine OL.det trivial (Yields.ldA rfl (vtxL_len _) (lcell_vtx (x := x) (E := 43) (tot := 35) (List.mem_flatten.2 ⟨_, .tail _ (.head _), List.mem_singleton.2 rfl⟩))) ?_
  refine OL.dp rfl ?_
  refine OL.det trivial (Yields.ldA rfl (vtxL_len _) (lcell_vtx (x := y) (E := 43) (tot := 35) (List.mem_flatten.2 ⟨_, .head _, List.mem_singleton.2 rfl⟩))) ?_
  refine OL.call trivial rfl (before2_fc h hS.cons.cons hx hy) ?_
  rintro _ Sx ⟨rfl, hSx⟩
  rw [hSx]
  clear hSx
  refine OL.bool trivial (Yields.pure rfl) (fun g13 => ?_) (fun g13 => ?_)
  · try simp only [decide_eq_true_eq, decide_eq_false_iff_not, beq_iff_eq, bne_iff_ne, beq_eq_false_iff_ne, bne_eq_false_iff_eq, Bool.not_eq_true', Bool.not_eq_false', Bool.not_eq_true, ne_eq, Decidable.not_not, Bool.false_eq_true, if_false, if_true] at g13
    refine OL.off rfl rfl ?_
    refine OL.off rfl rfl ?_
    refine OL.off rfl rfl ?_
    refine OL.off rfl rfl ?_
    refine OL.off rfl rfl ?_
    refine OL.off rfl rfl ?_
    refine OL.dp rfl ?_
    refine OL.dp rfl ?_
    refine OL.nil ?_
    refine PW.keep (T' := [(6, _)]) ⟨rfl, trivial⟩ ?_
    refine PW.ret ?_
    change (Exit.ret = Exit.normal ∨ Exit.ret = Exit.ret) ∧ ∃ v, resV _ _ = some v ∧ _
    first
      | exact ⟨.inr rfl, _, rfl, _, Sub.drop (Sub.drop (Sub.refl _)), by unfold ordP; rw [g13]; rfl, rfl⟩
  · try simp only [decide_eq_true_eq, decide_eq_false_iff_not, beq_iff_eq, bne_iff_ne, beq_eq_false_iff_ne, bne_eq_false_iff_eq, Bool.not_eq_true', Bool.not_eq_false', Bool.not_eq_true, ne_eq, Decidable.not_not, Bool.false_eq_true, if_false, if_true] at g13
    refine OL.det rfl (Yields.pure rfl) ?_
    refine OL.det rfl (Yields.pure rfl) ?_
    refine OL.det rfl (Yields.ldA rfl (vtxL_len _) (lcell_vtx (x := y) (E := 43) (tot := 35) (List.mem_flatten.2 ⟨_, .head _, List.mem_singleton.2 rfl⟩))) ?_
    refine OL.det rfl (Yields.pure rfl) ?_
    refine OL.det rfl (Yields.ldA rfl (vtxL_len _) (lcell_vtx (x := x) (E := 43) (tot := 35) (List.mem_flatten.2 ⟨_, .tail _ (.head _), List.mem_singleton.2 rfl⟩))) ?_
    refine OL.call rfl rfl (before2_fc h hS.cons.cons hy hx) ?_
    rintro _ Sx ⟨rfl, hSx⟩
    rw [hSx]
    clear hSx
    refine OL.dp rfl ?_
    refine OL.dp rfl ?_
    refine OL.nil ?_
    refine PW.keep (T' := [(6, _)]) ⟨rfl, trivial⟩ ?_
    refine PW.ret ?_
    change (Exit.ret = Exit.normal ∨ Exit.ret = Exit.ret) ∧ ∃ v, resV _ _ = some v ∧ _
    first
      | exact ⟨.inr rfl, _, rfl, _, Sub.drop (Sub.drop (Sub.refl _)), by unfold ordP; rw [g13]; rfl, rfl⟩
theorem block_fc {w0 : World} {S X : SS} {m : GrM} {ps : List PartP} {A : Option Addr} {c : Nat} {l : List LineP} (h : GG w0 X m ps) (hS : Over (GS m ++ X) S) (hx : Rd w0 S A (lines l)) (hv : ∀ x ∈ l, okV x.v) (hl : l.length ≤ 1000000) :
    FC Try.prog w0 72 [m.ptr, .slice A l.length c] S (fun v S' => ∃ M mc seg, v = itemV ⟨A, c, l, true, M, mc, midsK ps l l.length⟩ ∧ S' = seg :: S ∧ SlV 3 1 (.slice M (midsK ps l l.length).length mc) (midsK ps l l.length).length (ints (midsK ps l l.length)) seg) := by
  refine FC.ofC Try.known72 (by simp) ?_
  unfold Try.pc72
  simp only [argT]
  refine PW.seqOps ?_
  refine OL.cons trivial OW.al ?_
  rintro _ _ ⟨r4, rfl, rfl⟩
  refine OL.nil ?_
  refine PW.keep (T' := [(0, _), (1, _), (4, _)]) ⟨rfl, rfl, rfl, trivial⟩ ?_
  refine PW.seqOps ?_
  refine OL.dp rfl ?_
  refine OL.det trivial (Yields.build rfl) ?_
  refine OL.cons trivial OW.al ?_
  rintro _ _ ⟨r5, rfl, rfl⟩
  refine OL.cons trivial (OW.st (k := 0) (c := [.slice none 0 0, .bool false, .slice none 0 0]) (u := .agg #[.slice A l.length c, .bool true, .slice none 0 0]) rfl rfl rfl rfl (Nat.le_refl 3) rfl) ?_
  rintro _ _ rfl
  refine OL.subS (S' := [] :: [(r5, .cells [.slice A l.length c, .bool true, .slice none 0 0] 73 3)] :: [(r4, .cells [.slice none 0 0, .bool false, .slice none 0 0] 73 3)] :: S) (Sub.nilL (Sub.refl _)) ?_
  refine OL.nil ?_
  refine PW.keep (T' := [(0, _), (1, _), (4, _), (5, _)]) ⟨rfl, rfl, rfl, rfl, trivial⟩ ?_
  refine PW.seq fun K1 hK1 => ?_
  refine PW.seqOps ?_
  refine OL.dp rfl ?_
  refine OL.nil ?_
  refine PW.keep (T' := [(0, _), (1, _), (4, _), (5, _), (6, _)]) ⟨rfl, rfl, rfl, rfl, rfl, trivial⟩ ?_
  refine PW.block ?_
  refine PW.keep (T' := [(0, _), (1, _), (4, _), (5, _), (6, _)]) ⟨rfl, rfl, rfl, rfl, rfl, trivial⟩ ?_
  refine PW.loopK (I := fun mm T S' => ∃ (i : Nat) (vm : Value) (ms : List Int) (segm : Seg), (1 ≤ i ∧ (i ≤ l.length ∨ i = 1) ∧ mm = l.length - i ∧ ms = midsK ps l i ∧ ms.length ≤ i ∧ SlV 3 1 vm ms.length (ints ms) segm) ∧ T = ([(0, m.ptr), (1, .slice A l.length c), (4, .pointer (some ⟨r4, 0, none⟩)), (5, .pointer (some ⟨r5, 0, none⟩)), (6, .int .i64 i)] : TT) ∧ S' = segm :: [(r5, .cells [.slice A l.length c, .bool true, vm] 73 3)] :: [(r4, .cells [.slice none 0 0, .bool false, .slice none 0 0] 73 3)] :: S) (m := l.length - 1) ⟨1, _, [], [], ⟨Nat.le_refl 1, .inr rfl, rfl, by simp [midsK], Nat.zero_le _, SlV.nil 3 1⟩, rfl, rfl⟩ ?_
  rintro mm _ _ ⟨i, vm, ms, segm, ⟨hi1, hil0, hmm, hms, hmsl, hsm⟩, rfl, rfl⟩
  refine PW.seq fun K2 hK2 => ?_
  refine PW.seqOps ?_
  refine OL.dp rfl ?_
  refine OL.dp rfl ?_
  refine OL.dp rfl ?_
  refine OL.dp rfl ?_
  refine OL.nil ?_
  refine PW.keep (T' := [(0, _), (1, _), (4, _), (5, _), (6, _), (12, _)]) ⟨rfl, rfl, rfl, rfl, rfl, rfl, trivial⟩ ?_
  refine PW.cond rfl (fun c12 => ?_) (fun c12 => ?_)
  · try simp only [decide_eq_true_eq, decide_eq_false_iff_not, beq_iff_eq, bne_iff_ne, beq_eq_false_iff_ne, bne_eq_false_iff_eq, Bool.not_eq_true', Bool.not_eq_false', Bool.not_eq_true, ne_eq, Decidable.not_not, Bool.false_eq_true, if_false, if_true] at c12
    have hil : i < l.length := by omega
    have hx2 : Rd w0 (segm :: [(r5, .cells [.slice A l.length c, .bool true, vm] 73 3)] :: [(r4, .cells [.slice none 0 0, .bool false, .slice none 0 0] 73 3)] :: S) A (lines l) := hx.cons.cons.cons
    obtain ⟨a0, rfl⟩ := lines_some hx (by omega)
    refine PW.skip ?_
    refine hK2 _ _ ?_
    refine PW.keep (T' := [(0, _), (1, _), (4, _), (5, _), (6, _)]) ⟨rfl, rfl, rfl, rfl, rfl, trivial⟩ ?_
    refine PW.seq fun K3 hK3 => ?_
    refine PW.block ?_
    refine PW.seq fun K4 hK4 => ?_
    refine PW.quietK Try.mixed ?_
    refine QK.dp rfl ?_
    refine QK.dp rfl ?_
    refine QK.dp rfl ?_
    refine QK.det trivial (Yields.sub64 rfl rfl (by omega) (by omega)) ?_
    refine QK.det trivial (Yields.ixN rfl rfl (show ((i : Nat) : Int) - 1 = ((i - 1 : Nat) : Int) by omega) (by omega)) ?_
    refine QK.det trivial (Yields.ldA rfl (lineC_len _) (line_at (k := i - 1) hx2 (by omega))) ?_
    refine QK.dp rfl ?_
    refine QK.dp rfl ?_
    refine QK.det trivial (Yields.ixN rfl rfl rfl (by omega)) ?_
    refine QK.det trivial (Yields.ldA rfl (lineC_len _) (line_at hx2 hil)) ?_
    refine QK.nil ?_
    change OL _ _ _ [_, _] _ _ _
    refine OL.call trivial rfl (ordered_fc (x := l[i - 1]) (y := l[i]) h hS.cons.cons.cons (hv _ (List.getElem_mem _)) (hv _ (List.getElem_mem _))) ?_
    rintro _ Sx ⟨rfl, hSx⟩
    rw [hSx]
    clear hSx
    refine OL.dp rfl ?_
    refine OL.nil ?_
    refine hK4 _ _ ?_
    refine PW.keep (T' := [(0, _), (1, _), (4, _), (5, _), (6, _), (26, _)]) ⟨rfl, rfl, rfl, rfl, rfl, rfl, trivial⟩ ?_
    refine PW.cond rfl (fun c26 => ?_) (fun c26 => ?_)
    · skip
      refine PW.ops ?_
      refine OL.dp rfl ?_
      refine OL.det trivial (Yields.ld rfl (own_at (j := 2) (c := [.slice (some a0) l.length c, .bool true, vm]) (E := 73) (tot := 3) (List.mem_flatten.2 ⟨_, .tail _ (.head _), List.mem_singleton.2 rfl⟩) rfl)) ?_
      refine OL.dp rfl ?_
      apply OL.app1 (k := 0)
      · rfl
      · rfl
      · rfl
      · rfl
      · rfl
      · rfl
      · exact hsm
      · rfl
      · omega
      · unfold maxLen; omega
      intro v31 segd hsd
      obtain ⟨Ad, cd, rfl, hnd, hcd, hrdd⟩ := slv_rdL (w0 := w0) hsd
      change OL _ _ _ _ _ (segd :: [(r5, .cells [.slice (some a0) l.length c, .bool true, vm] 73 3)] :: [(r4, .cells [.slice none 0 0, .bool false, .slice none 0 0] 73 3)] :: S) _
      refine OL.dp rfl ?_
      refine OL.cons trivial (OW.st (k := 1) (c := [.slice (some a0) l.length c, .bool true, vm]) (u := .slice Ad (ms.length + 1) cd) rfl rfl rfl rfl (Nat.le_refl 3) rfl) ?_
      rintro _ _ rfl
      change OL _ _ _ _ _ (segd :: [(r5, .cells [.slice (some a0) l.length c, .bool true, .slice Ad (ms.length + 1) cd] 73 3)] :: [(r4, .cells [.slice none 0 0, .bool false, .slice none 0 0] 73 3)] :: S) _
      refine OL.nil ?_
      refine hK3 _ _ ?_
      refine PW.keep (T' := [(0, _), (1, _), (4, _), (5, _), (6, _)]) ⟨rfl, rfl, rfl, rfl, rfl, trivial⟩ ?_
      refine PW.ops ?_
      refine OL.dp rfl ?_
      refine OL.det trivial (Yields.add64 rfl rfl (by omega) (by omega)) ?_
      refine OL.dp rfl ?_
      refine OL.nil ?_
      repeat rw [inBlk_n]
      try rw [thenK_n]
      refine LoopEnd.mk (T'' := [(0, _), (1, _), (4, _), (5, _), (6, _)]) ⟨rfl, rfl, rfl, rfl, rfl, trivial⟩ ?_
      have hms2 := midsK_succ ps l i
      rw [getElem!_pos l (i - 1) (by omega), getElem!_pos l i hil, decide_eq_true (show 0 < i by omega), Bool.true_and] at hms2
      first
        | (rw [if_pos c26, ← hms] at hms2
           exact ⟨l.length - (i + 1), by omega, i + 1, _, ms ++ [(i : Int)], segd, ⟨by omega, .inl (by omega), rfl, hms2.symm, by rw [List.length_append]; exact Nat.succ_le_succ hmsl, ints_snoc hsd⟩, rfl, rfl⟩)
        | (rw [if_neg (by rw [c26]; simp), ← hms] at hms2
           exact ⟨l.length - (i + 1), by omega, i + 1, vm, ms, segm, ⟨by omega, .inl (by omega), rfl, hms2.symm, by omega, hsm⟩, rfl, rfl⟩)
    · skip
      refine PW.skip ?_
      refine hK3 _ _ ?_
      refine PW.keep (T' := [(0, _), (1, _), (4, _), (5, _), (6, _)]) ⟨rfl, rfl, rfl, rfl, rfl, trivial⟩ ?_
      refine PW.ops ?_
      refine OL.dp rfl ?_
      refine OL.det trivial (Yields.add64 rfl rfl (by omega) (by omega)) ?_
      refine OL.dp rfl ?_
      refine OL.nil ?_
      repeat rw [inBlk_n]
      try rw [thenK_n]
      refine LoopEnd.mk (T'' := [(0, _), (1, _), (4, _), (5, _), (6, _)]) ⟨rfl, rfl, rfl, rfl, rfl, trivial⟩ ?_
      have hms2 := midsK_succ ps l i
      rw [getElem!_pos l (i - 1) (by omega), getElem!_pos l i hil, decide_eq_true (show 0 < i by omega), Bool.true_and] at hms2
      first
        | (rw [if_pos c26, ← hms] at hms2
           exact ⟨l.length - (i + 1), by omega, i + 1, _, ms ++ [(i : Int)], segd, ⟨by omega, .inl (by omega), rfl, hms2.symm, by rw [List.length_append]; exact Nat.succ_le_succ hmsl, ints_snoc hsd⟩, rfl, rfl⟩)
        | (rw [if_neg (by rw [c26]; simp), ← hms] at hms2
           exact ⟨l.length - (i + 1), by omega, i + 1, vm, ms, segm, ⟨by omega, .inl (by omega), rfl, hms2.symm, by omega, hsm⟩, rfl, rfl⟩)
  · try simp only [decide_eq_true_eq, decide_eq_false_iff_not, beq_iff_eq, bne_iff_ne, beq_eq_false_iff_ne, bne_eq_false_iff_eq, Bool.not_eq_true', Bool.not_eq_false', Bool.not_eq_true, ne_eq, Decidable.not_not, Bool.false_eq_true, if_false, if_true] at c12
    refine PW.exit ?_
    refine hK1 _ _ ?_
    refine PW.keep (T' := [(4, _), (5, _)]) ⟨rfl, rfl, trivial⟩ ?_
    refine PW.seqOps ?_
    have hkm : midsK ps l i = midsK ps l l.length := by
      by_cases h0 : l.length = 0
      · have : i = 1 := by omega
        subst this
        rw [h0, midsK_succ, if_neg (by simp)]
      · rw [show i = l.length by omega]
    rw [hkm] at hms
    obtain ⟨Am, cm, rfl, hnm, hcm, hrdm⟩ := slv_rdL (w0 := w0) hsm
    refine OL.det trivial (Yields.ldA rfl (cs := [.slice A l.length c, .bool true, .slice Am ms.length cm]) rfl (all_at (c := [.slice A l.length c, .bool true, .slice Am ms.length cm]) (E := 73) (tot := 3) (List.mem_flatten.2 ⟨_, .tail _ (.head _), List.mem_singleton.2 rfl⟩))) ?_
    refine OL.cons trivial (OW.st (k := 2) (c := [.slice none 0 0, .bool false, .slice none 0 0]) (u := .agg #[.slice A l.length c, .bool true, .slice Am ms.length cm]) rfl rfl rfl rfl (Nat.le_refl 3) rfl) ?_
    rintro _ _ rfl
    refine OL.nil ?_
    refine PW.keep (T' := [(4, _)]) ⟨rfl, trivial⟩ ?_
    refine PW.ret ?_
    change (Exit.ret = Exit.normal ∨ Exit.ret = Exit.ret) ∧ ∃ a v, Go.SL.look _ _ = some (.pointer (some a)) ∧ ReadsAs _ _ _ _ _ ∧ _
    subst hms
    exact ⟨.inr rfl, _, itemV ⟨A, c, l, true, Am, cm, midsK ps l l.length⟩, rfl, item_read (E := 73) (tot := 3) (List.mem_flatten.2 ⟨_, .tail _ (.tail _ (.head _)), List.mem_singleton.2 rfl⟩), _, Sub.cons (Sub.drop (Sub.drop (Sub.refl _))), Am, cm, segm, rfl, rfl, hsm⟩
end Go.Proofs.Gr

set_option linter.unusedVariables false
set_option linter.unusedSectionVars false
namespace Go.Proofs.Gr
open Go.SL Go.RowKit Go.Proofs Go.GP
theorem _root_.Go.GP.New.more {ps qs : List PartP} {p : PartP} (h : New ps p) (hs : ∀ q ∈ ps, q ∈ qs) (hn : ∀ q ∈ qs, q.name ≠ p.name) (ho : ∀ v ∈ own p, v ∉ allV qs) : New qs p :=
  ⟨hn, ho, h.first, h.upE, h.downR, h.gone0, h.goneR, h.up.mono hs, h.down.mono hs, fun v hv => by
    obtain ⟨q, hq, hvq⟩ := mem_allV.1 (h.gone v hv)
    exact mem_allV.2 ⟨q, hs q hq, hvq⟩, h.bef.mono hs⟩
def Apart (p q : PartP) : Prop := p.name ≠ q.name ∧ ∀ v ∈ own p, v ∉ own q
theorem Apart.symm {p q : PartP} (h : Apart p q) : Apart q p := ⟨fun e => h.1 e.symm, fun v hv hm => h.2 v hm hv⟩
theorem _root_.Go.GP.Sq.apart {ps : List PartP} (h : Sq ps) : ps.Pairwise Apart := by
  induction h with
  | nil => exact .nil
  | cons h t ih => exact .cons (fun q hq => ⟨fun e => h.name q hq e.symm, fun v hv hm => h.own v hv (mem_allV.2 ⟨q, hq, hm⟩)⟩) ih
theorem _root_.Go.GP.New.formed {ps : List PartP} {p : PartP} (h : New ps p) : Formed p := ⟨h.gone0, h.goneR, h.first, h.upE, h.downR⟩
theorem _root_.Go.GP.Sq.formed {ps : List PartP} (h : Sq ps) : ∀ p ∈ ps, Formed p := by
  induction h with
  | nil => intro p hp; cases hp
  | cons h t ih =>
    intro p hp
    rcases List.mem_cons.1 hp with rfl | hp
    · exact h.formed
    · exact ih p hp
theorem _root_.Go.GP.Sq.gr {ps : List PartP} (h : Sq ps) : ∃ G, GP.Inv ps G := by
  induction h with
  | nil => exact ⟨_, GP.Inv.nil⟩
  | cons h t ih =>
    obtain ⟨G, hG⟩ := ih
    exact ⟨_, hG.add t h⟩
end Go.Proofs.Gr

set_option linter.unusedVariables false
set_option linter.unusedSimpArgs false
namespace Go.Proofs.Gr
open Go.SL Go.RowKit Go.Proofs Go.GP
set_option maxHeartbeats 1000000
section
variable {w0 : World} {S : SS} {a : Addr} {l : List PartM} {k : Nat}
end
end Go.Proofs.Gr

set_option linter.unusedVariables false
set_option linter.unusedSimpArgs false
namespace Go.Proofs.Gr
open Go.SL Go.RowKit Go.Proofs Go.GP
set_option maxHeartbeats 1000000
theorem gs_a {a : GrM} {s : Seg} {S : SS} : Sub (GS a ++ (s :: S)) (s :: (GS a ++ S)) := Sub.sel [1, 2, 3, 4, 0] 5 (by decide) (s :: (GS a ++ S))
theorem rd_mem {w0 : World} {S : SS} {s : Seg} {A : Option Addr} {l : List Value} (h : Rd w0 (s :: []) A l) (hm : s ∈ S) : Rd w0 S A l := h.mono fun p hp => List.mem_flatten.2 ⟨s, hm, by simpa using hp⟩
end Go.Proofs.Gr

set_option linter.unusedVariables false
set_option linter.unusedSimpArgs false
namespace Go.Proofs.Gr
open Go.SL Go.RowKit Go.Proofs Go.GP
set_option maxHeartbeats 1000000
/-- an item's rows lie so -/
structure ItemOk (w0 : World) (j : Seg) (x : ItemM) : Prop where
  rdL : Rd w0 (j :: []) x.LA (lines x.lines)
  rdM : Rd w0 (j :: []) x.MA (ints x.mids)
  nL : x.lines.length ≤ 60000
  nM : x.mids.length ≤ 60000
theorem ItemOk.more {w0 : World} {j j' : Seg} {x : ItemM} (h : ItemOk w0 j x) (hs : ∀ p ∈ j, p ∈ j') : ItemOk w0 j' x :=
  ⟨h.rdL.mono fun p hp => by simp at hp ⊢; exact hs p hp, h.rdM.mono fun p hp => by simp at hp ⊢; exact hs p hp, h.nL, h.nM⟩
theorem fill_line1 {T : TT} {x : PV} {u : LineP} {zero : List Value} (hx : x.val T = some (lineV u)) (hz : zero.length = 35) : fillP T zero [(0, 35, x)] = some (lineC u) := by
  simp only [fillP, hx]
  rw [if_pos ⟨(List.size_toArray).trans (lineC_len u), by omega⟩]
  exact congrArg some (setAll (by rw [hz]; exact (lineC_len u).symm))
theorem sub_pack {a b c p j : Seg} {S : SS} : Sub (b :: c :: [] :: (a ++ (p ++ j)) :: S) (a :: b :: c :: p :: j :: S) :=
  (Sub.cons (Sub.cons (Sub.nilL (Sub.refl _)))).trans ((Sub.cons (Sub.cons Sub.join)).trans ((Sub.cons (Sub.cons (Sub.cons Sub.join))).trans (Sub.sel [1, 2, 0, 3, 4] 5 (by decide) (a :: b :: c :: p :: j :: S))))
theorem sub_pack2 {a b c p j : Seg} {S : SS} : Sub (c :: p :: (a ++ j) :: S) (a :: b :: c :: p :: j :: S) :=
  (Sub.cons (Sub.cons Sub.join)).trans (Sub.sel [2, 3, 0, 4] 5 (by decide) (a :: b :: c :: p :: j :: S))
theorem sub_pack3 {a c p j s : Seg} {S : SS} : Sub (c :: (a ++ (p ++ j)) :: S) (a :: c :: p :: j :: s :: S) :=
  (Sub.cons Sub.join).trans ((Sub.cons (Sub.cons Sub.join)).trans (Sub.sel [1, 0, 2, 3] 5 (by decide) (a :: c :: p :: j :: s :: S)))
theorem sub_pack4 {c p j s : Seg} {S : SS} : Sub (c :: j :: S) (c :: p :: j :: s :: S) := Sub.sel [0, 2] 4 (by decide) (c :: p :: j :: s :: S)
theorem item_snoc {v : Value} {l : List ItemM} {x : ItemM} {seg : Seg} (h : SlV 73 3 v (l.length + 1) (itemS l ++ itemC x) seg) : SlV 73 3 v (l ++ [x]).length (itemS (l ++ [x])) seg := by
  rw [List.length_append, itemS_app]
  have : itemS [x] = itemC x := by simp [itemS]
  rw [this]
  exact h
theorem line_snoc {v : Value} {l : List LineP} {x : LineP} {seg : Seg} (h : SlV 43 35 v (l.length + 1) (lines l ++ lineC x) seg) : SlV 43 35 v (l ++ [x]).length (lines (l ++ [x])) seg := by
  rw [List.length_append, lines_app]
  have : lines [x] = lineC x := by simp [lines]
  rw [this]
  exact h
theorem midsK_len (ps : List PartP) (l : List LineP) (k : Nat) : (midsK ps l k).length ≤ k := by
  unfold midsK
  rw [List.length_map]
  exact Nat.le_trans (List.length_filter_le _ _) (by simp)
theorem blockM_ok {w0 : World} {ps : List PartP} {A M : Option Addr} {c mc : Nat} {l : List LineP} {s p j : Seg} (hs : SlV 3 1 (.slice M (midsK ps l l.length).length mc) (midsK ps l l.length).length (ints (midsK ps l l.length)) s) (hp : SlV 43 35 (.slice A l.length c) l.length (lines l) p) (hl : l.length ≤ 60000) :
    ItemOk w0 (s ++ (p ++ j)) ⟨A, c, l, true, M, mc, midsK ps l l.length⟩ := by
  obtain ⟨A1, c1, e1, _, _, r1⟩ := slv_rdL (w0 := w0) hs
  obtain ⟨A2, c2, e2, _, _, r2⟩ := slv_rdL (w0 := w0) hp
  obtain ⟨rfl, rfl⟩ : M = A1 ∧ mc = c1 := by simpa using e1
  obtain ⟨rfl, rfl⟩ : A = A2 ∧ c = c2 := by simpa using e2
  have := midsK_len ps l l.length
  exact ⟨(r2 []).mono fun q hq => by simp at hq ⊢; exact .inr (.inl hq), (r1 []).mono fun q hq => by simp at hq ⊢; exact .inl hq, hl, Nat.le_trans this hl⟩
theorem solidP_iff {ps : List PartP} {l : List LineP} {x : LineP} : solidP ps l x = true ↔ ∀ y ∈ l, (decide (x.v = y.v) || ordP ps x.v y.v) = true := by unfold solidP; rw [List.all_eq_true]
theorem items_fc {w0 : World} {S X : SS} {m : GrM} {ps : List PartP} (h : GG w0 X m ps) (hX : Over X S) (hn : (allV ps).length ≤ 60000) :
    FC Try.prog w0 33 [m.ptr] (GS m ++ S) (fun v S' => ∃ its seg junk, S' = seg :: junk :: (GS m ++ S) ∧ its.map ItemM.pl = itemsP ps ∧ SlV 73 3 v its.length (itemS its) seg ∧ (∀ x ∈ its, ItemOk w0 junk x) ∧ its.length ≤ 120001) := by
  refine FC.ofD Try.known33 (by simp) ?_
  unfold Try.pc33
  simp only [argT]
  refine PW.seqOps ?_
  refine OL.dp rfl ?_
  refine OL.nil ?_
  refine PW.keep (T' := [(0, _)]) ⟨rfl, trivial⟩ ?_
  refine PW.scope ?_
  refine PW.seqOps ?_
  refine OL.dp rfl ?_
  refine OL.call trivial rfl (lines2_fc h hX) ?_
  rintro _ _ ⟨seg0, rfl, hsl0⟩
  obtain ⟨LA, lc, rfl, hLn, hLc, hrd0⟩ := slv_rdL (w0 := w0) hsl0
  have hln := linesP_len h.sq
  refine OL.call trivial rfl (deleteDead_fc hsl0 (by omega)) ?_
  rintro _ _ ⟨segl, rfl, hsl⟩
  obtain ⟨LB, lcB, rfl, hnB, hcB, hrdB⟩ := slv_rdL (w0 := w0) hsl
  have hlv := live_len (linesP ps)
  have hok : ∀ x ∈ live (linesP ps), okV x.v := fun x hx => by
    obtain ⟨v, hv, rfl⟩ := List.mem_map.1 (List.mem_filter.1 hx).1
    exact h.okV (topoF_mem hv)
  obtain ⟨L, hL⟩ : ∃ z, z = live (linesP ps) := ⟨_, rfl⟩
  have hip : itemsP ps = itemsL ps L := by rw [hL]; rfl
  rw [← hL] at hrdB hcB hlv hok ⊢
  have hLn : L.length ≤ 60000 := by omega
  refine OL.dp rfl ?_
  refine OL.nil ?_
  refine PW.keep (T' := [(0, _), (3, _)]) ⟨rfl, rfl, trivial⟩ ?_
  refine PW.seqOps ?_
  refine OL.dp rfl ?_
  refine OL.nil ?_
  refine PW.keep (T' := [(0, _), (3, _), (4, _)]) ⟨rfl, rfl, rfl, trivial⟩ ?_
  refine PW.seqOps ?_
  refine OL.dp rfl ?_
  refine OL.nil ?_
  refine PW.keep (T' := [(0, _), (3, _), (4, _), (5, _)]) ⟨rfl, rfl, rfl, rfl, trivial⟩ ?_
  refine PW.seq fun K1 hK1 => ?_
  refine PW.label ?_
  refine hK1 _ _ ?_
  refine PW.keep (T' := [(0, _), (3, _), (4, _), (5, _)]) ⟨rfl, rfl, rfl, rfl, trivial⟩ ?_
  refine PW.seq fun K2 hK2 => ?_
  refine PW.seqOps ?_
  refine OL.subS (S' := [] :: [] :: [] :: segl :: (GS m ++ S)) (Sub.nilL (Sub.nilL (Sub.nilL (Sub.refl _)))) ?_
  refine OL.dp rfl ?_
  refine OL.dp rfl ?_
  refine OL.dp rfl ?_
  refine OL.nil ?_
  refine PW.keep (T' := [(0, _), (3, _), (4, _), (5, _), (13, _), (14, _), (15, _)]) ⟨rfl, rfl, rfl, rfl, rfl, rfl, rfl, trivial⟩ ?_
  refine PW.block ?_
  refine PW.keep (T' := [(0, _), (3, _), (4, _), (5, _), (13, _), (14, _), (15, _)]) ⟨rfl, rfl, rfl, rfl, rfl, rfl, rfl, trivial⟩ ?_
  refine PW.loopK (I := fun mm T S' => ∃ (k : Nat) (its : List ItemM) (op : List LineP) (vo vp : Value) (sgo sgp junk : Seg), (k ≤ L.length ∧ mm = L.length - k ∧ (its.map ItemM.pl, op) = foldI ps L k ∧ its.length ≤ 2 * k ∧ op.length ≤ k ∧ SlV 73 3 vo its.length (itemS its) sgo ∧ SlV 43 35 vp op.length (lines op) sgp ∧ (∀ x ∈ its, ItemOk w0 junk x) ∧ (∀ x ∈ op, x ∈ L)) ∧ T = ([(0, m.ptr), (3, .slice LB L.length lcB), (4, vo), (5, vp), (13, .slice LB L.length lcB), (14, .int .i64 (L.length : Int)), (15, .int .i64 k)] : TT) ∧ S' = sgo :: sgp :: junk :: segl :: (GS m ++ S)) (m := L.length) ⟨0, [], [], _, _, [], [], [], ⟨by omega, by omega, rfl, Nat.zero_le _, Nat.zero_le _, SlV.nil 73 3, SlV.nil 43 35, (fun x hx => by cases hx), (fun x hx => by cases hx)⟩, rfl, rfl⟩ ?_
  rintro mm _ _ ⟨k, its, op, vo, vp, sgo, sgp, junk, ⟨hk, hmm, hfold, hitl, hopl, hso, hsp, hio, hin⟩, rfl, rfl⟩
  obtain ⟨Ap, cp, rfl, hnp, hcp, hrdp⟩ := slv_rdL (w0 := w0) hsp
  refine PW.seqOps ?_
  refine OL.dp rfl ?_
  refine OL.nil ?_
  refine PW.keep (T' := [(0, _), (3, _), (4, _), (5, _), (13, _), (14, _), (15, _), (16, _)]) ⟨rfl, rfl, rfl, rfl, rfl, rfl, rfl, rfl, trivial⟩ ?_
  refine PW.seq fun K3 hK3 => ?_
  refine PW.cond rfl (fun c16 => ?_) (fun c16 => ?_)
  · try simp only [decide_eq_true_eq, decide_eq_false_iff_not, beq_iff_eq, bne_iff_ne, beq_eq_false_iff_ne, bne_eq_false_iff_eq, Bool.not_eq_true', Bool.not_eq_false', Bool.not_eq_true, ne_eq, Decidable.not_not, Bool.false_eq_true, if_false, if_true] at c16
    have hkl : k < L.length := by omega
    obtain ⟨a0, rfl⟩ := lines_some (hrdB []) (by omega)
    refine PW.skip ?_
    refine hK3 _ _ ?_
    refine PW.keep (T' := [(0, _), (3, _), (4, _), (5, _), (13, _), (14, _), (15, _)]) ⟨rfl, rfl, rfl, rfl, rfl, rfl, rfl, trivial⟩ ?_
    refine PW.seq fun K4 hK4 => ?_
    refine PW.block ?_
    refine PW.seqOps ?_
    refine OL.det trivial (Yields.ixN rfl rfl rfl hkl) ?_
    refine OL.det trivial (Yields.ldA rfl (lineC_len _) (line_at (rd_mem (hrdB []) (by simp)) hkl)) ?_
    refine OL.cons trivial OW.al ?_
    rintro _ _ ⟨r7, rfl, rfl⟩
    refine OL.cons trivial (line_st rfl rfl rfl) ?_
    rintro _ _ rfl
    change OL _ _ _ _ _ (lseg r7 L[k] :: sgo :: sgp :: junk :: segl :: (GS m ++ S)) _
    refine OL.nil ?_
    refine PW.keep (T' := [(0, _), (3, _), (4, _), (5, _), (7, _), (13, _), (14, _), (15, _)]) ⟨rfl, rfl, rfl, rfl, rfl, rfl, rfl, rfl, trivial⟩ ?_
    refine PW.seq fun K5 hK5 => ?_
    refine PW.seqOps ?_
    refine OL.dp rfl ?_
    refine OL.dp rfl ?_
    refine OL.dp rfl ?_
    refine OL.nil ?_
    refine PW.keep (T' := [(0, _), (3, _), (4, _), (5, _), (7, _), (13, _), (14, _), (15, _), (19, _), (20, _), (21, _)]) ⟨rfl, rfl, rfl, rfl, rfl, rfl, rfl, rfl, rfl, rfl, rfl, trivial⟩ ?_
    refine PW.block ?_
    refine PW.keep (T' := [(0, _), (3, _), (4, _), (5, _), (7, _), (13, _), (14, _), (15, _), (19, _), (20, _), (21, _)]) ⟨rfl, rfl, rfl, rfl, rfl, rfl, rfl, rfl, rfl, rfl, rfl, trivial⟩ ?_
    refine PW.loopK (I := fun mj T S' => ∃ j : Nat, (j ≤ L.length ∧ mj = L.length - j ∧ ∀ y ∈ L.take j, (decide (L[k].v = y.v) || ordP ps L[k].v y.v) = true) ∧ T = ([(0, m.ptr), (3, .slice (some a0) L.length lcB), (4, vo), (5, .slice Ap op.length cp), (7, .pointer (some ⟨r7, 0, none⟩)), (13, .slice (some a0) L.length lcB), (14, .int .i64 (L.length : Int)), (15, .int .i64 k), (19, .slice (some a0) L.length lcB), (20, .int .i64 (L.length : Int)), (21, .int .i64 j)] : TT) ∧ S' = lseg r7 L[k] :: sgo :: sgp :: junk :: segl :: (GS m ++ S)) (m := L.length) ⟨0, ⟨by omega, by omega, by simp⟩, rfl, rfl⟩ ?_
    rintro mj _ _ ⟨j, ⟨hj, hmj, hall⟩, rfl, rfl⟩
    refine PW.seqOps ?_
    refine OL.dp rfl ?_
    refine OL.nil ?_
    refine PW.keep (T' := [(0, _), (3, _), (4, _), (5, _), (7, _), (13, _), (14, _), (15, _), (19, _), (20, _), (21, _), (22, _)]) ⟨rfl, rfl, rfl, rfl, rfl, rfl, rfl, rfl, rfl, rfl, rfl, rfl, trivial⟩ ?_
    refine PW.seq fun K6 hK6 => ?_
    refine PW.cond rfl (fun c22 => ?_) (fun c22 => ?_)
    · try simp only [decide_eq_true_eq, decide_eq_false_iff_not, beq_iff_eq, bne_iff_ne, beq_eq_false_iff_ne, bne_eq_false_iff_eq, Bool.not_eq_true', Bool.not_eq_false', Bool.not_eq_true, ne_eq, Decidable.not_not, Bool.false_eq_true, if_false, if_true] at c22
      have hjl : j < L.length := by omega
      refine PW.skip ?_
      refine hK6 _ _ ?_
      refine PW.keep (T' := [(0, _), (3, _), (4, _), (5, _), (7, _), (13, _), (14, _), (15, _), (19, _), (20, _), (21, _)]) ⟨rfl, rfl, rfl, rfl, rfl, rfl, rfl, rfl, rfl, rfl, rfl, trivial⟩ ?_
      refine PW.seq fun K7 hK7 => ?_
      refine PW.block ?_
      refine PW.seqOps ?_
      refine OL.det trivial (Yields.ixN rfl rfl rfl hjl) ?_
      refine OL.det trivial (Yields.ldA rfl (lineC_len _) (line_at (rd_mem (hrdB []) (by simp)) hjl)) ?_
      refine OL.cons trivial OW.al ?_
      rintro _ _ ⟨r9, rfl, rfl⟩
      refine OL.cons trivial (line_st rfl rfl rfl) ?_
      rintro _ _ rfl
      change OL _ _ _ _ _ (lseg r9 L[j] :: lseg r7 L[k] :: sgo :: sgp :: junk :: segl :: (GS m ++ S)) _
      refine OL.nil ?_
      refine PW.keep (T' := [(0, _), (3, _), (4, _), (5, _), (7, _), (9, _), (13, _), (14, _), (15, _), (19, _), (20, _), (21, _)]) ⟨rfl, rfl, rfl, rfl, rfl, rfl, rfl, rfl, rfl, rfl, rfl, rfl, trivial⟩ ?_
      refine PW.seqOps ?_
      refine OL.dp rfl ?_
      refine OL.det trivial (Yields.ldA rfl (vtxL_len _) (lcell_vtx (x := L[k]) (E := 43) (tot := 35) (List.mem_flatten.2 ⟨_, .tail _ (.head _), List.mem_singleton.2 rfl⟩))) ?_
      refine OL.dp rfl ?_
      refine OL.det trivial (Yields.ldA rfl (vtxL_len _) (lcell_vtx (x := L[j]) (E := 43) (tot := 35) (List.mem_flatten.2 ⟨_, .head _, List.mem_singleton.2 rfl⟩))) ?_
      refine OL.det trivial (Yields.eqD (neg := true) rfl rfl (eqL_vtx _ _)) ?_
      refine OL.bool trivial (Yields.pure rfl) (fun g30 => ?_) (fun g30 => ?_)
      · try simp only [decide_eq_true_eq, decide_eq_false_iff_not, beq_iff_eq, bne_iff_ne, beq_eq_false_iff_ne, bne_eq_false_iff_eq, Bool.not_eq_true', Bool.not_eq_false', Bool.not_eq_true, ne_eq, Decidable.not_not, Bool.false_eq_true, if_false, if_true] at g30
        refine OL.det rfl (Yields.pure rfl) ?_
        refine OL.det rfl (Yields.ldA rfl (lineC_len _) (lcell (x := L[k]) (E := 43) (tot := 35) (List.mem_flatten.2 ⟨_, .tail _ (.head _), List.mem_singleton.2 rfl⟩))) ?_
        refine OL.det rfl (Yields.ldA rfl (lineC_len _) (lcell (x := L[j]) (E := 43) (tot := 35) (List.mem_flatten.2 ⟨_, .head _, List.mem_singleton.2 rfl⟩))) ?_
        refine OL.call rfl rfl (ordered_fc (x := L[k]) (y := L[j]) h ((Over.both hX).cons.cons.cons.cons.cons.cons) (hok _ (List.getElem_mem _)) (hok _ (List.getElem_mem _))) ?_
        rintro _ Sx ⟨rfl, hSx⟩
        rw [hSx]
        clear hSx
        refine OL.det rfl (Yields.pure rfl) ?_
        refine OL.dp rfl ?_
        refine OL.nil ?_
        refine PW.keep (T' := [(0, _), (3, _), (4, _), (5, _), (7, _), (13, _), (14, _), (15, _), (19, _), (20, _), (21, _), (36, _)]) ⟨rfl, rfl, rfl, rfl, rfl, rfl, rfl, rfl, rfl, rfl, rfl, rfl, trivial⟩ ?_
        refine PW.cond rfl (fun c36 => ?_) (fun c36 => ?_)
        · skip
          refine PW.seqOps ?_
          refine OL.dp rfl ?_
          refine OL.det trivial (Yields.ldA rfl (lineC_len _) (lcell (x := L[k]) (E := 43) (tot := 35) (List.mem_flatten.2 ⟨_, .tail _ (.head _), List.mem_singleton.2 rfl⟩))) ?_
          apply OL.app1 (k := 3)
          · rfl
          · rfl
          · exact (List.size_toArray).trans (lineC_len _)
          · rfl
          · rfl
          · rfl
          · exact hsp
          · exact lineC_one _
          · omega
          · unfold maxLen; omega
          intro v40 seg40 hsl40
          refine OL.dp rfl ?_
          refine OL.nil ?_
          refine PW.keep (T' := [(0, _), (3, _), (4, _), (5, _), (13, _), (14, _), (15, _)]) ⟨rfl, rfl, rfl, rfl, rfl, rfl, rfl, trivial⟩ ?_
          refine PW.exit ?_
          refine hK4 _ _ ?_
          refine PW.keep (T' := [(0, _), (3, _), (4, _), (5, _), (13, _), (14, _), (15, _)]) ⟨rfl, rfl, rfl, rfl, rfl, rfl, rfl, trivial⟩ ?_
          refine PW.ops ?_
          refine OL.det trivial (Yields.add64 rfl rfl (by omega) (by omega)) ?_
          refine OL.dp rfl ?_
          refine OL.nil ?_
          repeat rw [inBlk_n]
          try rw [thenK_n]
          refine LoopEnd.mkS (Sub.drop (Sub.drop (Sub.refl _))) (T'' := [(0, _), (3, _), (4, _), (5, _), (13, _), (14, _), (15, _)]) ⟨rfl, rfl, rfl, rfl, rfl, rfl, rfl, trivial⟩ ?_
          have hsc := foldI_succ (ps := ps) hkl
          rw [← hfold] at hsc
          unfold stepI at hsc
          have hkl2 : L.length - (k + 1) < mm := by omega
          have hns : ¬ solidP ps L L[k] = true := fun hs => by
            have h1 := solidP_iff.1 hs L[j] (List.getElem_mem hjl)
            simp at g30 c36
            simp [g30, c36] at h1
          rw [if_neg hns] at hsc
          exact ⟨_, hkl2, k + 1, its, op ++ [L[k]], vo, _, sgo, seg40, junk, ⟨by omega, rfl, hsc.symm, by omega, by rw [List.length_append]; exact Nat.succ_le_succ hopl, hso, line_snoc hsl40, hio, fun x hx => by
            rcases List.mem_append.1 hx with h | h
            · exact hin x h
            · rw [List.mem_singleton] at h; subst h; exact List.getElem_mem _⟩, rfl, rfl⟩
        · skip
          refine PW.skip ?_
          refine hK7 _ _ ?_
          refine PW.keep (T' := [(0, _), (3, _), (4, _), (5, _), (7, _), (13, _), (14, _), (15, _), (19, _), (20, _), (21, _)]) ⟨rfl, rfl, rfl, rfl, rfl, rfl, rfl, rfl, rfl, rfl, rfl, trivial⟩ ?_
          refine PW.ops ?_
          refine OL.det trivial (Yields.add64 rfl rfl (by omega) (by omega)) ?_
          refine OL.dp rfl ?_
          refine OL.nil ?_
          repeat rw [inBlk_n]
          try rw [thenK_n]
          refine LoopEnd.mkS (Sub.drop (Sub.refl _)) (T'' := [(0, _), (3, _), (4, _), (5, _), (7, _), (13, _), (14, _), (15, _), (19, _), (20, _), (21, _)]) ⟨rfl, rfl, rfl, rfl, rfl, rfl, rfl, rfl, rfl, rfl, rfl, trivial⟩ ?_
          refine ⟨L.length - (j + 1), by omega, j + 1, ⟨by omega, rfl, fun y hy => ?_⟩, rfl, rfl⟩
          rw [ltake_snoc hjl] at hy
          rcases List.mem_append.1 hy with h | h
          · exact hall y h
          · rw [List.mem_singleton] at h
            subst h
            first
              | (simp [g30]; done)
              | (simp at c36; simp [c36]; done)
              | (simp [c36]; done)
      · try simp only [decide_eq_true_eq, decide_eq_false_iff_not, beq_iff_eq, bne_iff_ne, beq_eq_false_iff_ne, bne_eq_false_iff_eq, Bool.not_eq_true', Bool.not_eq_false', Bool.not_eq_true, ne_eq, Decidable.not_not, Bool.false_eq_true, if_false, if_true] at g30
        refine OL.off rfl rfl ?_
        refine OL.off rfl rfl ?_
        refine OL.off rfl rfl ?_
        refine OL.off rfl rfl ?_
        refine OL.off rfl rfl ?_
        refine OL.dp rfl ?_
        refine OL.nil ?_
        refine PW.keep (T' := [(0, _), (3, _), (4, _), (5, _), (7, _), (13, _), (14, _), (15, _), (19, _), (20, _), (21, _), (36, _)]) ⟨rfl, rfl, rfl, rfl, rfl, rfl, rfl, rfl, rfl, rfl, rfl, rfl, trivial⟩ ?_
        refine PW.ite (b := false) rfl ?_
        rw [if_neg Bool.false_ne_true]
        refine PW.skip ?_
        refine hK7 _ _ ?_
        refine PW.keep (T' := [(0, _), (3, _), (4, _), (5, _), (7, _), (13, _), (14, _), (15, _), (19, _), (20, _), (21, _)]) ⟨rfl, rfl, rfl, rfl, rfl, rfl, rfl, rfl, rfl, rfl, rfl, trivial⟩ ?_
        refine PW.ops ?_
        refine OL.det trivial (Yields.add64 rfl rfl (by omega) (by omega)) ?_
        refine OL.dp rfl ?_
        refine OL.nil ?_
        repeat rw [inBlk_n]
        try rw [thenK_n]
        refine LoopEnd.mkS (Sub.drop (Sub.refl _)) (T'' := [(0, _), (3, _), (4, _), (5, _), (7, _), (13, _), (14, _), (15, _), (19, _), (20, _), (21, _)]) ⟨rfl, rfl, rfl, rfl, rfl, rfl, rfl, rfl, rfl, rfl, rfl, trivial⟩ ?_
        refine ⟨L.length - (j + 1), by omega, j + 1, ⟨by omega, rfl, fun y hy => ?_⟩, rfl, rfl⟩
        rw [ltake_snoc hjl] at hy
        rcases List.mem_append.1 hy with h | h
        · exact hall y h
        · rw [List.mem_singleton] at h
          subst h
          first
            | (simp [g30]; done)
            | (simp at c36; simp [c36]; done)
            | (simp [c36]; done)
    · try simp only [decide_eq_true_eq, decide_eq_false_iff_not, beq_iff_eq, bne_iff_ne, beq_eq_false_iff_ne, bne_eq_false_iff_eq, Bool.not_eq_true', Bool.not_eq_false', Bool.not_eq_true, ne_eq, Decidable.not_not, Bool.false_eq_true, if_false, if_true] at c22
      refine PW.exit ?_
      refine hK5 _ _ ?_
      refine PW.keep (T' := [(0, _), (3, _), (4, _), (5, _), (7, _), (13, _), (14, _), (15, _)]) ⟨rfl, rfl, rfl, rfl, rfl, rfl, rfl, rfl, trivial⟩ ?_
      refine PW.seq fun K8 hK8 => ?_
      refine PW.seqOps ?_
      refine OL.dp rfl ?_
      refine OL.dp rfl ?_
      refine OL.dp rfl ?_
      refine OL.nil ?_
      refine PW.keep (T' := [(0, _), (3, _), (4, _), (5, _), (7, _), (13, _), (14, _), (15, _), (44, _)]) ⟨rfl, rfl, rfl, rfl, rfl, rfl, rfl, rfl, rfl, trivial⟩ ?_
      refine PW.cond rfl (fun c44 => ?_) (fun c44 => ?_)
      · try simp only [decide_eq_true_eq, decide_eq_false_iff_not, beq_iff_eq, bne_iff_ne, beq_eq_false_iff_ne, bne_eq_false_iff_eq, Bool.not_eq_true', Bool.not_eq_false', Bool.not_eq_true, ne_eq, Decidable.not_not, Bool.false_eq_true, if_false, if_true] at c44
        refine PW.seqOps ?_
        refine OL.dp rfl ?_
        refine OL.dp rfl ?_
        refine OL.dp rfl ?_
        refine OL.call trivial rfl (by exact block_fc (X := X) h ((Over.both hX).cons.cons.cons.cons.cons) (rd_mem (hrdp []) (by simp)) (fun x hx => hok x (hin x hx)) (by omega)) ?_
        rintro _ _ ⟨Mb, mcb, segm, rfl, rfl, hsm⟩
        apply OL.app1 (k := 2)
        · rfl
        · rfl
        · rfl
        · rfl
        · rfl
        · rfl
        · exact hso
        · rfl
        · omega
        · unfold maxLen; omega
        intro v50 seg50 hsl50
        refine OL.subS (S' := lseg r7 L[k] :: seg50 :: [] :: (segm ++ (sgp ++ junk)) :: segl :: (GS m ++ S)) sub_pack ?_
        have hok2 := blockM_ok (j := junk) hsm hsp (w0 := w0) (by omega)
        have hso2 := item_snoc (x := ⟨Ap, cp, op, true, Mb, mcb, midsK ps op op.length⟩) hsl50
        refine OL.dp rfl ?_
        refine OL.nil ?_
        refine PW.keep (T' := [(0, _), (3, _), (4, _), (7, _), (13, _), (14, _), (15, _)]) ⟨rfl, rfl, rfl, rfl, rfl, rfl, rfl, trivial⟩ ?_
        refine PW.ops ?_
        refine OL.dp rfl ?_
        refine OL.nil ?_
        refine hK8 _ _ ?_
        refine PW.keep (T' := [(0, _), (3, _), (4, _), (5, _), (7, _), (13, _), (14, _), (15, _)]) ⟨rfl, rfl, rfl, rfl, rfl, rfl, rfl, rfl, trivial⟩ ?_
        refine PW.ops ?_
        refine OL.dp rfl ?_
        refine OL.det trivial (Yields.ldA rfl (lineC_len _) (lcell (x := L[k]) (E := 43) (tot := 35) (List.mem_flatten.2 ⟨_, .head _, List.mem_singleton.2 rfl⟩))) ?_
        refine OL.cons trivial (OW.bsl (cs := lineC L[k]) (fill_line1 rfl rfl)) ?_
        rintro _ _ ⟨r53, rfl, rfl⟩
        rw [lineC_len]
        refine OL.det trivial (Yields.build (cs := itemC ⟨some ⟨r53, 0, none⟩, 1, [L[k]], false, none, 0, []⟩) rfl) ?_
        apply OL.app1 (k := 2)
        · rfl
        · rfl
        · rfl
        · rfl
        · rfl
        · rfl
        · exact (by first | exact hso2 | exact hso)
        · rfl
        · (first | omega | (simp only [List.length_append, List.length_cons, List.length_nil]; omega))
        · unfold maxLen; (first | omega | (simp only [List.length_append, List.length_cons, List.length_nil]; omega))
        intro v56 seg56 hsl56
        refine OL.dp rfl ?_
        refine OL.nil ?_
        refine hK4 _ _ ?_
        refine PW.keep (T' := [(0, _), (3, _), (4, _), (5, _), (13, _), (14, _), (15, _)]) ⟨rfl, rfl, rfl, rfl, rfl, rfl, rfl, trivial⟩ ?_
        refine PW.ops ?_
        refine OL.det trivial (Yields.add64 rfl rfl (by omega) (by omega)) ?_
        refine OL.dp rfl ?_
        refine OL.nil ?_
        repeat rw [inBlk_n]
        try rw [thenK_n]
        refine LoopEnd.mkS (sub_pack2) (T'' := [(0, _), (3, _), (4, _), (5, _), (13, _), (14, _), (15, _)]) ⟨rfl, rfl, rfl, rfl, rfl, rfl, rfl, trivial⟩ ?_
        have hsc := foldI_succ (ps := ps) hkl
        rw [← hfold] at hsc
        unfold stepI at hsc
        have hkl2 : L.length - (k + 1) < mm := by omega
        have hs : solidP ps L L[k] = true := solidP_iff.2 fun y hy => hall y (by rw [List.take_of_length_le (by omega)]; exact hy)
        have hne : op ≠ [] := fun e => by subst e; simp at c44
        rw [if_pos hs] at hsc
        unfold shut at hsc
        rw [if_neg hne] at hsc
        have hrow : ItemOk w0 ([(r53, AO.cells (lineC L[k]) 43 35)] ++ (segm ++ (sgp ++ junk))) ⟨some ⟨r53, 0, none⟩, 1, [L[k]], false, none, 0, []⟩ := ⟨(Rd.own (E := 43) (tot := 35) (by simp [lines])).mono (fun q hq => hq), Rd.nil, Nat.succ_le_succ (Nat.zero_le _), Nat.zero_le _⟩
        exact ⟨_, hkl2, k + 1, its ++ [⟨Ap, cp, op, true, Mb, mcb, midsK ps op op.length⟩] ++ [⟨some ⟨r53, 0, none⟩, 1, [L[k]], false, none, 0, []⟩], [], _, _, seg56, [], [(r53, AO.cells (lineC L[k]) 43 35)] ++ (segm ++ (sgp ++ junk)), ⟨by omega, rfl, by rw [hsc, List.map_append, List.map_append]; rfl, by simp only [List.length_append, List.length_cons, List.length_nil]; omega, Nat.zero_le _, item_snoc hsl56, SlV.nil 43 35, fun x hx => by
          rcases List.mem_append.1 hx with h | h
          · rcases List.mem_append.1 h with h | h
            · exact (hio x h).more fun q hq => by simp [hq]
            · rw [List.mem_singleton] at h; subst h; exact hok2.more fun q hq => List.mem_append_right _ hq
          · rw [List.mem_singleton] at h; subst h; exact hrow, fun x hx => by cases hx⟩, rfl, rfl⟩
      · try simp only [decide_eq_true_eq, decide_eq_false_iff_not, beq_iff_eq, bne_iff_ne, beq_eq_false_iff_ne, bne_eq_false_iff_eq, Bool.not_eq_true', Bool.not_eq_false', Bool.not_eq_true, ne_eq, Decidable.not_not, Bool.false_eq_true, if_false, if_true] at c44
        refine PW.skip ?_
        refine hK8 _ _ ?_
        refine PW.keep (T' := [(0, _), (3, _), (4, _), (5, _), (7, _), (13, _), (14, _), (15, _)]) ⟨rfl, rfl, rfl, rfl, rfl, rfl, rfl, rfl, trivial⟩ ?_
        refine PW.ops ?_
        refine OL.dp rfl ?_
        refine OL.det trivial (Yields.ldA rfl (lineC_len _) (lcell (x := L[k]) (E := 43) (tot := 35) (List.mem_flatten.2 ⟨_, .head _, List.mem_singleton.2 rfl⟩))) ?_
        refine OL.cons trivial (OW.bsl (cs := lineC L[k]) (fill_line1 rfl rfl)) ?_
        rintro _ _ ⟨r53, rfl, rfl⟩
        rw [lineC_len]
        refine OL.det trivial (Yields.build (cs := itemC ⟨some ⟨r53, 0, none⟩, 1, [L[k]], false, none, 0, []⟩) rfl) ?_
        apply OL.app1 (k := 2)
        · rfl
        · rfl
        · rfl
        · rfl
        · rfl
        · rfl
        · exact (by first | exact hso2 | exact hso)
        · rfl
        · (first | omega | (simp only [List.length_append, List.length_cons, List.length_nil]; omega))
        · unfold maxLen; (first | omega | (simp only [List.length_append, List.length_cons, List.length_nil]; omega))
        intro v56 seg56 hsl56
        refine OL.dp rfl ?_
        refine OL.nil ?_
        refine hK4 _ _ ?_
        refine PW.keep (T' := [(0, _), (3, _), (4, _), (5, _), (13, _), (14, _), (15, _)]) ⟨rfl, rfl, rfl, rfl, rfl, rfl, rfl, trivial⟩ ?_
        refine PW.ops ?_
        refine OL.det trivial (Yields.add64 rfl rfl (by omega) (by omega)) ?_
        refine OL.dp rfl ?_
        refine OL.nil ?_
        repeat rw [inBlk_n]
        try rw [thenK_n]
        refine LoopEnd.mkS (sub_pack2) (T'' := [(0, _), (3, _), (4, _), (5, _), (13, _), (14, _), (15, _)]) ⟨rfl, rfl, rfl, rfl, rfl, rfl, rfl, trivial⟩ ?_
        have hsc := foldI_succ (ps := ps) hkl
        rw [← hfold] at hsc
        unfold stepI at hsc
        have hkl2 : L.length - (k + 1) < mm := by omega
        have hs : solidP ps L L[k] = true := solidP_iff.2 fun y hy => hall y (by rw [List.take_of_length_le (by omega)]; exact hy)
        have hne : op = [] := List.eq_nil_of_length_eq_zero (by omega)
        rw [if_pos hs] at hsc
        unfold shut at hsc
        rw [if_pos hne] at hsc
        have hrow : ItemOk w0 ([(r53, AO.cells (lineC L[k]) 43 35)] ++ junk) ⟨some ⟨r53, 0, none⟩, 1, [L[k]], false, none, 0, []⟩ := ⟨(Rd.own (E := 43) (tot := 35) (by simp [lines])).mono (fun q hq => hq), Rd.nil, Nat.succ_le_succ (Nat.zero_le _), Nat.zero_le _⟩
        exact ⟨_, hkl2, k + 1, its ++ [⟨some ⟨r53, 0, none⟩, 1, [L[k]], false, none, 0, []⟩], [], _, _, seg56, sgp, [(r53, AO.cells (lineC L[k]) 43 35)] ++ junk, ⟨by omega, rfl, by rw [hsc, List.map_append]; simp; rfl, by simp only [List.length_append, List.length_cons, List.length_nil]; omega, Nat.zero_le _, item_snoc hsl56, by subst hne; exact hsp, fun x hx => by
          rcases List.mem_append.1 hx with h | h
          · exact (hio x h).more fun q hq => by simp [hq]
          · rw [List.mem_singleton] at h; subst h; exact hrow, fun x hx => by cases hx⟩, rfl, rfl⟩
  · try simp only [decide_eq_true_eq, decide_eq_false_iff_not, beq_iff_eq, bne_iff_ne, beq_eq_false_iff_ne, bne_eq_false_iff_eq, Bool.not_eq_true', Bool.not_eq_false', Bool.not_eq_true, ne_eq, Decidable.not_not, Bool.false_eq_true, if_false, if_true] at c16
    refine PW.exit ?_
    refine hK2 _ _ ?_
    refine PW.keep (T' := [(0, _), (4, _), (5, _)]) ⟨rfl, rfl, rfl, trivial⟩ ?_
    refine PW.seq fun K9 hK9 => ?_
    refine PW.seqOps ?_
    refine OL.dp rfl ?_
    refine OL.dp rfl ?_
    refine OL.dp rfl ?_
    refine OL.nil ?_
    refine PW.keep (T' := [(0, _), (4, _), (5, _), (60, _)]) ⟨rfl, rfl, rfl, rfl, trivial⟩ ?_
    refine PW.cond rfl (fun c60 => ?_) (fun c60 => ?_)
    · try simp only [decide_eq_true_eq, decide_eq_false_iff_not, beq_iff_eq, bne_iff_ne, beq_eq_false_iff_ne, bne_eq_false_iff_eq, Bool.not_eq_true', Bool.not_eq_false', Bool.not_eq_true, ne_eq, Decidable.not_not, Bool.false_eq_true, if_false, if_true] at c60
      refine PW.ops ?_
      refine OL.dp rfl ?_
      refine OL.dp rfl ?_
      refine OL.dp rfl ?_
      refine OL.call trivial rfl (by exact block_fc (X := X) h ((Over.both hX).cons.cons.cons.cons) (rd_mem (hrdp []) (by simp)) (fun x hx => hok x (hin x hx)) (by omega)) ?_
      rintro _ _ ⟨Mb, mcb, segm, rfl, rfl, hsm⟩
      apply OL.app1 (k := 1)
      · rfl
      · rfl
      · rfl
      · rfl
      · rfl
      · rfl
      · exact hso
      · rfl
      · omega
      · unfold maxLen; omega
      intro v66 seg66 hsl66
      have hok2 := blockM_ok (j := junk) hsm hsp (w0 := w0) (by omega)
      have hso2 := item_snoc (x := ⟨Ap, cp, op, true, Mb, mcb, midsK ps op op.length⟩) hsl66
      have hke : k = L.length := by omega
      have hsub : Sub (seg66 :: (segm ++ (sgp ++ junk)) :: (GS m ++ S)) (segm :: seg66 :: sgp :: junk :: segl :: (GS m ++ S)) := sub_pack3
      have hpost : ∃ its2 seg2 junk2, seg66 :: (segm ++ (sgp ++ junk)) :: (GS m ++ S) = seg2 :: junk2 :: (GS m ++ S) ∧ its2.map ItemM.pl = itemsP ps ∧ SlV 73 3 v66 its2.length (itemS its2) seg2 ∧ (∀ x ∈ its2, ItemOk w0 junk2 x) ∧ its2.length ≤ 120001 := ⟨its ++ [⟨Ap, cp, op, true, Mb, mcb, midsK ps op op.length⟩], seg66, segm ++ (sgp ++ junk), rfl, by
        subst hke
        have hne : op ≠ [] := fun e => by subst e; simp at c60
        rw [hip]
        unfold itemsL
        rw [← hfold]
        unfold shut
        rw [if_neg hne, List.map_append]
        rfl, hso2, (fun x hx => by
        rcases List.mem_append.1 hx with h | h
        · exact (hio x h).more fun q hq => by simp [hq]
        · rw [List.mem_singleton] at h; subst h; exact hok2), by rw [List.length_append]; simp only [List.length_cons, List.length_nil]; omega⟩
      refine OL.dp rfl ?_
      refine OL.nil ?_
      refine hK9 _ _ ?_
      refine PW.keep (T' := [(4, _)]) ⟨rfl, trivial⟩ ?_
      refine PW.seqOps ?_
      refine OL.dp rfl ?_
      refine OL.dp rfl ?_
      refine OL.nil ?_
      refine PW.keep (T' := [(2, _)]) ⟨rfl, trivial⟩ ?_
      refine PW.ret ?_
      change (Exit.ret = Exit.normal ∨ Exit.ret = Exit.ret) ∧ ∃ v, resV _ _ = some v ∧ _
      exact ⟨.inr rfl, _, rfl, _, hsub, hpost⟩
    · try simp only [decide_eq_true_eq, decide_eq_false_iff_not, beq_iff_eq, bne_iff_ne, beq_eq_false_iff_ne, bne_eq_false_iff_eq, Bool.not_eq_true', Bool.not_eq_false', Bool.not_eq_true, ne_eq, Decidable.not_not, Bool.false_eq_true, if_false, if_true] at c60
      have hke : k = L.length := by omega
      have hsub : Sub (sgo :: junk :: (GS m ++ S)) (sgo :: sgp :: junk :: segl :: (GS m ++ S)) := sub_pack4
      have hpost : ∃ its2 seg2 junk2, sgo :: junk :: (GS m ++ S) = seg2 :: junk2 :: (GS m ++ S) ∧ its2.map ItemM.pl = itemsP ps ∧ SlV 73 3 vo its2.length (itemS its2) seg2 ∧ (∀ x ∈ its2, ItemOk w0 junk2 x) ∧ its2.length ≤ 120001 := ⟨its, sgo, junk, rfl, by
        subst hke
        have hne : op = [] := List.eq_nil_of_length_eq_zero (by omega)
        rw [hip]
        unfold itemsL
        rw [← hfold]
        unfold shut
        rw [if_pos hne]
        simp, hso, hio, by omega⟩
      refine PW.skip ?_
      refine hK9 _ _ ?_
      refine PW.keep (T' := [(4, _)]) ⟨rfl, trivial⟩ ?_
      refine PW.seqOps ?_
      refine OL.dp rfl ?_
      refine OL.dp rfl ?_
      refine OL.nil ?_
      refine PW.keep (T' := [(2, _)]) ⟨rfl, trivial⟩ ?_
      refine PW.ret ?_
      change (Exit.ret = Exit.normal ∨ Exit.ret = Exit.ret) ∧ ∃ v, resV _ _ = some v ∧ _
      exact ⟨.inr rfl, _, rfl, _, hsub, hpost⟩
end Go.Proofs.Gr

set_option linter.unusedVariables false
set_option linter.unusedSimpArgs false
namespace Go.Proofs.Gr
open Go.SL Go.RowKit Go.Proofs Go.GP
set_option maxHeartbeats 1000000
theorem ints_at {w0 : World} {S : SS} {a : Addr} {l : List Int} (h : Rd w0 S (some a) (ints l)) {k : Nat} (hk : k < l.length) : Cell w0 S (a.add k) (.int .i64 l[k]) := h.at (by unfold ints; rw [List.getElem?_map, List.getElem?_eq_getElem hk]; rfl)
theorem ints_some {w0 : World} {S : SS} {A : Option Addr} {l : List Int} (h : Rd w0 S A (ints l)) (hk : 0 < l.length) : ∃ a, A = some a :=
  h.some (fun e => by have := congrArg List.length e; simp [ints] at this; subst this; simp at hk)
theorem itemS_get {l : List ItemM} {k : Nat} (hk : k < l.length) {j : Nat} (hj : j < 3) : (itemS l)[k * 3 + j]? = (itemC l[k])[j]? := by
  unfold itemS
  rw [flat_get itemC_len l (k * 3 + j) (by omega), show (k * 3 + j) / 3 = k from by omega, show (k * 3 + j) % 3 = j from by omega, getElem!_pos l k hk]
theorem itemS_some {w0 : World} {S : SS} {A : Option Addr} {l : List ItemM} (h : Rd w0 S A (itemS l)) (hk : 0 < l.length) : ∃ a, A = some a :=
  h.some (fun e => by have := itemS_len l; rw [e] at this; simp at this; omega)
theorem item_at {w0 : World} {S : SS} {a : Addr} {l : List ItemM} (h : Rd w0 S (some a) (itemS l)) {k : Nat} (hk : k < l.length) : ∀ (j : Nat) (v : Value), (itemC l[k])[j]? = some v → Cell w0 S ((a.add (k * 3)).add j) v := by
  intro j v hj
  have hj2 : j < 3 := by have := (List.getElem?_eq_some_iff.1 hj).1; rwa [itemC_len] at this
  rw [addr_add_add]
  exact h.at (by rw [itemS_get hk hj2]; exact hj)
theorem toL_inj {a b : ByteArray} : a.toList = b.toList ↔ a = b := by
  constructor
  · intro h; rw [ByteArray.toList_eq, ByteArray.toList_eq] at h; cases a; cases b; congr 1; exact Array.toList_inj.1 h
  · rintro rfl; rfl
theorem item_st {w0 : World} {S : SS} {P : Program} {n r : Nat} {T : TT} {x v : PV} {u : ItemM} {z : List Value} (hx : x.val T = some (.pointer (some ⟨r, 0, none⟩))) (hv : v.val T = some (itemV u)) (hz : z.length = 3) :
    OW P w0 n (.st 3 x v) T ([(r, .cells z 73 3)] :: S) (fun _ S' => S' = [(r, .cells (itemC u) 73 3)] :: S) := by
  refine (OW.st (k := 0) (c := z) (u := itemV u) hx hv rfl (show (itemV u).cells.size = 3 from rfl) (by omega) rfl).mono ?_
  rintro _ _ rfl
  rw [item_box, setAll (by rw [itemC_len, hz])]
  rfl
theorem indexI_fc {w0 : World} {S : SS} {A : Option Addr} {c : Nat} {l : List Int} {z : Int} {q : Int → Bool} (hqd : q = fun x => decide (z = x)) (hx : Rd w0 S A (ints l)) (hb : l.length ≤ 1000000000000) :
    FC Try.prog w0 98 [.slice A l.length c, .int .i64 z] S (fun u S' => u = .int .i64 (gidx q l) ∧ S' = S) := by
  refine FC.of Try.known98 (by simp) ?_
  unfold Try.pc98
  simp only [argT]
  refine PW.seqOps ?_
  refine OL.dp rfl ?_
  refine OL.nil ?_
  refine PW.keep (T' := [(0, _), (1, _)]) ⟨rfl, rfl, trivial⟩ ?_
  refine PW.seq fun K1 hK1 => ?_
  refine PW.seqOps ?_
  refine OL.dp rfl ?_
  refine OL.dp rfl ?_
  refine OL.dp rfl ?_
  refine OL.nil ?_
  refine PW.keep (T' := [(0, _), (1, _), (7, _), (8, _)]) ⟨rfl, rfl, rfl, rfl, trivial⟩ ?_
  refine PW.block ?_
  refine PW.keep (T' := [(0, _), (1, _), (7, _), (8, _)]) ⟨rfl, rfl, rfl, rfl, trivial⟩ ?_
  refine PW.loopK (I := fun m T S' => ∃ (k : Nat), (k ≤ l.length ∧ m = l.length - k ∧ ∀ x ∈ l.take k, q x = false) ∧ T = ([(0, .slice A l.length c), (1, .int .i64 z), (7, .int .i64 (l.length : Int)), (8, .int .i64 k)] : TT) ∧ S' = S) (m := l.length) ⟨0, ⟨by omega, by omega, by simp⟩, rfl, rfl⟩ ?_
  rintro m _ _ ⟨k, ⟨hk, hm, hall⟩, rfl, rfl⟩
  refine PW.seqOps ?_
  refine OL.dp rfl ?_
  refine OL.nil ?_
  refine PW.keep (T' := [(0, _), (1, _), (7, _), (8, _), (9, _)]) ⟨rfl, rfl, rfl, rfl, rfl, trivial⟩ ?_
  refine PW.seq fun K2 hK2 => ?_
  refine PW.cond rfl (fun c9 => ?_) (fun c9 => ?_)
  · try simp only [decide_eq_true_eq, decide_eq_false_iff_not, beq_iff_eq, bne_iff_ne, beq_eq_false_iff_ne, bne_eq_false_iff_eq, Bool.not_eq_true', Bool.not_eq_false', Bool.not_eq_true, ne_eq, Decidable.not_not, Bool.false_eq_true, if_false, if_true] at c9
    have hkl : k < l.length := by omega
    obtain ⟨a0, rfl⟩ := ints_some hx (by omega)
    refine PW.skip ?_
    refine hK2 _ _ ?_
    refine PW.keep (T' := [(0, _), (1, _), (7, _), (8, _)]) ⟨rfl, rfl, rfl, rfl, trivial⟩ ?_
    refine PW.seq fun K3 hK3 => ?_
    refine PW.block ?_
    refine PW.seqOps ?_
    refine OL.dp rfl ?_
    refine OL.dp rfl ?_
    refine OL.nil ?_
    refine PW.keep (T' := [(0, _), (1, _), (5, _), (7, _), (8, _)]) ⟨rfl, rfl, rfl, rfl, rfl, trivial⟩ ?_
    refine PW.seqOps ?_
    refine OL.dp rfl ?_
    refine OL.dp rfl ?_
    refine OL.dp rfl ?_
    refine OL.det trivial (Yields.ixN1 rfl rfl rfl (by omega)) ?_
    refine OL.det trivial (Yields.ld rfl (ints_at hx hkl)) ?_
    refine OL.dp rfl ?_
    refine OL.nil ?_
    refine PW.keep (T' := [(0, _), (1, _), (5, _), (7, _), (8, _), (16, _)]) ⟨rfl, rfl, rfl, rfl, rfl, rfl, trivial⟩ ?_
    refine PW.cond rfl (fun c16 => ?_) (fun c16 => ?_)
    · skip
      have hqt : q l[k] = true := by rw [hqd]; simpa using c16
      refine PW.seqOps ?_
      refine OL.dp rfl ?_
      refine OL.dp rfl ?_
      refine OL.nil ?_
      refine PW.keep (T' := [(4, _)]) ⟨rfl, trivial⟩ ?_
      refine PW.ret ?_
      change (Exit.ret = Exit.normal ∨ Exit.ret = Exit.ret) ∧ ∃ v, resV _ _ = some v ∧ _
      exact ⟨.inr rfl, _, rfl, by rw [gidx_take hkl hall hqt], rfl⟩
    · skip
      refine PW.skip ?_
      refine hK3 _ _ ?_
      refine PW.keep (T' := [(0, _), (1, _), (7, _), (8, _)]) ⟨rfl, rfl, rfl, rfl, trivial⟩ ?_
      refine PW.ops ?_
      refine OL.det trivial (Yields.add64 rfl rfl (by omega) (by omega)) ?_
      refine OL.dp rfl ?_
      refine OL.nil ?_
      repeat rw [inBlk_n]
      try rw [thenK_n]
      refine LoopEnd.mk (T'' := [(0, _), (1, _), (7, _), (8, _)]) ⟨rfl, rfl, rfl, rfl, trivial⟩ ?_
      refine ⟨l.length - (k + 1), by omega, k + 1, ⟨by omega, rfl, fun x hx => ?_⟩, rfl, rfl⟩
      rw [ltake_snoc hkl] at hx
      rcases List.mem_append.1 hx with h | h
      · exact hall x h
      · rw [List.mem_singleton] at h; subst h; simpa [hqd] using c16
  · try simp only [decide_eq_true_eq, decide_eq_false_iff_not, beq_iff_eq, bne_iff_ne, beq_eq_false_iff_ne, bne_eq_false_iff_eq, Bool.not_eq_true', Bool.not_eq_false', Bool.not_eq_true, ne_eq, Decidable.not_not, Bool.false_eq_true, if_false, if_true] at c9
    refine PW.exit ?_
    refine hK1 _ _ ?_
    refine PW.keep (T' := []) trivial ?_
    refine PW.seqOps ?_
    refine OL.dp rfl ?_
    refine OL.nil ?_
    refine PW.keep (T' := [(4, _)]) ⟨rfl, trivial⟩ ?_
    refine PW.ret ?_
    change (Exit.ret = Exit.normal ∨ Exit.ret = Exit.ret) ∧ ∃ v, resV _ _ = some v ∧ _
    exact ⟨.inr rfl, _, rfl, by rw [gidx_no (fun x hx => hall x (by rw [List.take_of_length_le (by omega)]; exact hx))], rfl⟩
theorem containsI_fc {w0 : World} {S : SS} {A : Option Addr} {c : Nat} {l : List Int} {z : Int} (hx : Rd w0 S A (ints l)) (hb : l.length ≤ 1000000000000) :
    FC Try.prog w0 76 [.slice A l.length c, .int .i64 z] S (fun u S' => u = .bool (l.contains z) ∧ S' = S) := by
  refine FC.of Try.known76 (by simp) ?_
  unfold Try.pc76
  simp only [argT]
  refine PW.seqOps ?_
  refine OL.dp rfl ?_
  refine OL.nil ?_
  refine PW.keep (T' := [(0, _), (1, _)]) ⟨rfl, rfl, trivial⟩ ?_
  refine PW.seqOps ?_
  refine OL.dp rfl ?_
  refine OL.dp rfl ?_
  refine OL.call trivial rfl (indexI_fc (q := fun x => decide (z = x)) rfl hx hb) ?_
  rintro _ Sx ⟨rfl, hSx⟩
  rw [hSx]
  clear hSx
  refine OL.dp rfl ?_
  refine OL.dp rfl ?_
  refine OL.nil ?_
  refine PW.keep (T' := [(4, _)]) ⟨rfl, trivial⟩ ?_
  refine PW.ret ?_
  change (Exit.ret = Exit.normal ∨ Exit.ret = Exit.ret) ∧ ∃ v, resV _ _ = some v ∧ _
  refine ⟨.inr rfl, _, rfl, congrArg Value.bool ?_, rfl⟩
  rw [Bool.eq_iff_iff, decide_eq_true_eq, iff_of_eq gidx_any, List.any_eq_true, List.contains_iff_mem]
  constructor
  · rintro ⟨x, hx, h⟩
    obtain rfl := of_decide_eq_true h
    exact hx
  · exact fun h => ⟨z, h, by simp⟩
theorem isBlock_fc {w0 : World} {S : SS} {x : ItemM} : FC Try.prog w0 79 [itemV x] S (fun v S' => v = .bool x.block ∧ S' = S) := by
  refine FC.ofD Try.known79 (by simp) ?_
  unfold Try.pc79
  simp only [argT]
  refine PW.seqOps ?_
  refine OL.cons trivial (OW.bx rfl) ?_
  rintro _ _ ⟨r1, rfl, rfl⟩
  rw [item_box, itemC_len]
  refine OL.dp rfl ?_
  refine OL.nil ?_
  refine PW.keep (T' := [(1, _)]) ⟨rfl, trivial⟩ ?_
  refine PW.seqOps ?_
  refine OL.dp rfl ?_
  refine OL.det trivial (Yields.ld rfl (own_at (j := 1) (c := itemC x) (E := 73) (tot := 3) (List.mem_flatten.2 ⟨_, .head _, List.mem_singleton.2 rfl⟩) rfl)) ?_
  refine OL.dp rfl ?_
  refine OL.nil ?_
  refine PW.keep (T' := [(2, _)]) ⟨rfl, trivial⟩ ?_
  refine PW.ret ?_
  change (Exit.ret = Exit.normal ∨ Exit.ret = Exit.ret) ∧ ∃ v, resV _ _ = some v ∧ _
  exact ⟨.inr rfl, _, rfl, _, Sub.drop (Sub.refl _), rfl, rfl⟩
theorem indexFuncI_fc {w0 : World} {S : SS} {A : Option Addr} {c : Nat} {l : List ItemM} {g : FuncId} {ca : List Value} {q : ItemM → Bool} (hx : Rd w0 S A (itemS l)) (hb : l.length ≤ 1000000000000) (hok : fnOk Try.prog g = true)
    (hq : ∀ x ∈ l, FC Try.prog w0 g ([] ++ [itemV x] ++ ca) S (fun u S' => u = .bool (q x) ∧ S' = S)) :
    FC Try.prog w0 99 [.slice A l.length c, .func (.func g) #[] ca.toArray] S (fun u S' => u = .int .i64 (gidx q l) ∧ S' = S) := by
  refine FC.of Try.known99 (by simp) ?_
  unfold Try.pc99
  simp only [argT]
  refine PW.seqOps ?_
  refine OL.dp rfl ?_
  refine OL.nil ?_
  refine PW.keep (T' := [(0, _), (1, _)]) ⟨rfl, rfl, trivial⟩ ?_
  refine PW.seq fun K1 hK1 => ?_
  refine PW.seqOps ?_
  refine OL.dp rfl ?_
  refine OL.dp rfl ?_
  refine OL.dp rfl ?_
  refine OL.nil ?_
  refine PW.keep (T' := [(0, _), (1, _), (7, _), (8, _)]) ⟨rfl, rfl, rfl, rfl, trivial⟩ ?_
  refine PW.block ?_
  refine PW.keep (T' := [(0, _), (1, _), (7, _), (8, _)]) ⟨rfl, rfl, rfl, rfl, trivial⟩ ?_
  refine PW.loopK (I := fun m T S' => ∃ (k : Nat), (k ≤ l.length ∧ m = l.length - k ∧ ∀ x ∈ l.take k, q x = false) ∧ T = ([(0, .slice A l.length c), (1, .func (.func g) #[] ca.toArray), (7, .int .i64 (l.length : Int)), (8, .int .i64 k)] : TT) ∧ S' = S) (m := l.length) ⟨0, ⟨by omega, by omega, by simp⟩, rfl, rfl⟩ ?_
  rintro m _ _ ⟨k, ⟨hk, hm, hall⟩, rfl, rfl⟩
  refine PW.seqOps ?_
  refine OL.dp rfl ?_
  refine OL.nil ?_
  refine PW.keep (T' := [(0, _), (1, _), (7, _), (8, _), (9, _)]) ⟨rfl, rfl, rfl, rfl, rfl, trivial⟩ ?_
  refine PW.seq fun K2 hK2 => ?_
  refine PW.cond rfl (fun c9 => ?_) (fun c9 => ?_)
  · try simp only [decide_eq_true_eq, decide_eq_false_iff_not, beq_iff_eq, bne_iff_ne, beq_eq_false_iff_ne, bne_eq_false_iff_eq, Bool.not_eq_true', Bool.not_eq_false', Bool.not_eq_true, ne_eq, Decidable.not_not, Bool.false_eq_true, if_false, if_true] at c9
    have hkl : k < l.length := by omega
    obtain ⟨a0, rfl⟩ := itemS_some hx (by omega)
    refine PW.skip ?_
    refine hK2 _ _ ?_
    refine PW.keep (T' := [(0, _), (1, _), (7, _), (8, _)]) ⟨rfl, rfl, rfl, rfl, trivial⟩ ?_
    refine PW.seq fun K3 hK3 => ?_
    refine PW.block ?_
    refine PW.seqOps ?_
    refine OL.dp rfl ?_
    refine OL.dp rfl ?_
    refine OL.nil ?_
    refine PW.keep (T' := [(0, _), (1, _), (5, _), (7, _), (8, _)]) ⟨rfl, rfl, rfl, rfl, rfl, trivial⟩ ?_
    refine PW.seqOps ?_
    refine OL.dp rfl ?_
    refine OL.dp rfl ?_
    refine OL.dp rfl ?_
    refine OL.det trivial (Yields.ixN rfl rfl rfl (by omega)) ?_
    refine OL.det trivial (Yields.ldA rfl (itemC_len _) (item_at hx hkl)) ?_
    refine OL.cons trivial (OW.callv (fi := []) (ca := ca) rfl hok rfl (hq _ (List.getElem_mem hkl))) ?_
    rintro _ Sx ⟨rfl, hSx⟩
    rw [hSx]
    clear hSx
    refine OL.nil ?_
    refine PW.keep (T' := [(0, _), (1, _), (5, _), (7, _), (8, _), (16, _)]) ⟨rfl, rfl, rfl, rfl, rfl, rfl, trivial⟩ ?_
    refine PW.cond rfl (fun c16 => ?_) (fun c16 => ?_)
    · skip
      have hqt : q l[k] = true := by simpa using c16
      refine PW.seqOps ?_
      refine OL.dp rfl ?_
      refine OL.dp rfl ?_
      refine OL.nil ?_
      refine PW.keep (T' := [(4, _)]) ⟨rfl, trivial⟩ ?_
      refine PW.ret ?_
      change (Exit.ret = Exit.normal ∨ Exit.ret = Exit.ret) ∧ ∃ v, resV _ _ = some v ∧ _
      exact ⟨.inr rfl, _, rfl, by rw [gidx_take hkl hall hqt], rfl⟩
    · skip
      refine PW.skip ?_
      refine hK3 _ _ ?_
      refine PW.keep (T' := [(0, _), (1, _), (7, _), (8, _)]) ⟨rfl, rfl, rfl, rfl, trivial⟩ ?_
      refine PW.ops ?_
      refine OL.det trivial (Yields.add64 rfl rfl (by omega) (by omega)) ?_
      refine OL.dp rfl ?_
      refine OL.nil ?_
      repeat rw [inBlk_n]
      try rw [thenK_n]
      refine LoopEnd.mk (T'' := [(0, _), (1, _), (7, _), (8, _)]) ⟨rfl, rfl, rfl, rfl, trivial⟩ ?_
      refine ⟨l.length - (k + 1), by omega, k + 1, ⟨by omega, rfl, fun x hx => ?_⟩, rfl, rfl⟩
      rw [ltake_snoc hkl] at hx
      rcases List.mem_append.1 hx with h | h
      · exact hall x h
      · rw [List.mem_singleton] at h; subst h; simpa using c16
  · try simp only [decide_eq_true_eq, decide_eq_false_iff_not, beq_iff_eq, bne_iff_ne, beq_eq_false_iff_ne, bne_eq_false_iff_eq, Bool.not_eq_true', Bool.not_eq_false', Bool.not_eq_true, ne_eq, Decidable.not_not, Bool.false_eq_true, if_false, if_true] at c9
    refine PW.exit ?_
    refine hK1 _ _ ?_
    refine PW.keep (T' := []) trivial ?_
    refine PW.seqOps ?_
    refine OL.dp rfl ?_
    refine OL.nil ?_
    refine PW.keep (T' := [(4, _)]) ⟨rfl, trivial⟩ ?_
    refine PW.ret ?_
    change (Exit.ret = Exit.normal ∨ Exit.ret = Exit.ret) ∧ ∃ v, resV _ _ = some v ∧ _
    exact ⟨.inr rfl, _, rfl, by rw [gidx_no (fun x hx => hall x (by rw [List.take_of_length_le (by omega)]; exact hx))], rfl⟩
theorem containsFuncI_fc {w0 : World} {S : SS} {A : Option Addr} {c : Nat} {l : List ItemM} {g : FuncId} {ca : List Value} {q : ItemM → Bool} (hx : Rd w0 S A (itemS l)) (hb : l.length ≤ 1000000000000) (hok : fnOk Try.prog g = true)
    (hq : ∀ x ∈ l, FC Try.prog w0 g ([] ++ [itemV x] ++ ca) S (fun u S' => u = .bool (q x) ∧ S' = S)) :
    FC Try.prog w0 78 [.slice A l.length c, .func (.func g) #[] ca.toArray] S (fun u S' => u = .bool (l.any q) ∧ S' = S) := by
  refine FC.of Try.known78 (by simp) ?_
  unfold Try.pc78
  simp only [argT]
  refine PW.seqOps ?_
  refine OL.dp rfl ?_
  refine OL.nil ?_
  refine PW.keep (T' := [(0, _), (1, _)]) ⟨rfl, rfl, trivial⟩ ?_
  refine PW.seqOps ?_
  refine OL.dp rfl ?_
  refine OL.dp rfl ?_
  refine OL.call trivial rfl (indexFuncI_fc (q := q) hx hb hok hq) ?_
  rintro _ Sx ⟨rfl, hSx⟩
  rw [hSx]
  clear hSx
  refine OL.dp rfl ?_
  refine OL.dp rfl ?_
  refine OL.nil ?_
  refine PW.keep (T' := [(4, _)]) ⟨rfl, trivial⟩ ?_
  refine PW.ret ?_
  change (Exit.ret = Exit.normal ∨ Exit.ret = Exit.ret) ∧ ∃ v, resV _ _ = some v ∧ _
  exact ⟨.inr rfl, _, rfl, congrArg Value.bool (by rw [Bool.eq_iff_iff, decide_eq_true_eq, iff_of_eq gidx_any]), rfl⟩
theorem conflict_fc {w0 : World} {S : SS} {A : Option Addr} {c : Nat} {l : List ItemM} (hx : Rd w0 S A (itemS l)) (hb : l.length ≤ 1000000000000) :
    FC Try.prog w0 39 [.slice A l.length c] S (fun u S' => u = .bool (l.any (·.block)) ∧ S' = S) := by
  refine FC.of Try.known39 (by simp) ?_
  unfold Try.pc39
  simp only [argT]
  refine PW.seqOps ?_
  refine OL.dp rfl ?_
  refine OL.nil ?_
  refine PW.keep (T' := [(0, _)]) ⟨rfl, trivial⟩ ?_
  refine PW.seqOps ?_
  refine OL.dp rfl ?_
  refine OL.call trivial rfl (containsFuncI_fc (g := 79) (ca := []) (q := fun x => x.block) hx hb (by kernel_rfl) (fun x _ => isBlock_fc)) ?_
  rintro _ Sx ⟨rfl, hSx⟩
  rw [hSx]
  clear hSx
  refine OL.dp rfl ?_
  refine OL.nil ?_
  refine PW.keep (T' := [(2, _)]) ⟨rfl, trivial⟩ ?_
  refine PW.ret ?_
  change (Exit.ret = Exit.normal ∨ Exit.ret = Exit.ret) ∧ ∃ v, resV _ _ = some v ∧ _
  exact ⟨.inr rfl, _, rfl, rfl, rfl⟩
theorem sameS_fc {w0 : World} {S : SS} {A B : Option Addr} {c d : Nat} {a b : List ByteArray} (hx : Rd w0 S A (strs a)) (hy : Rd w0 S B (strs b)) (ha : a.length ≤ 1000000000000) (hb : b.length ≤ 1000000000000) :
    FC Try.prog w0 35 [.slice A a.length c, .slice B b.length d] S (fun u S' => u = .bool (decide (a = b)) ∧ S' = S) := by
  refine FC.of Try.known35 (by simp) ?_
  unfold Try.pc35
  simp only [argT]
  refine PW.seqOps ?_
  refine OL.dp rfl ?_
  refine OL.nil ?_
  refine PW.keep (T' := [(0, _), (1, _)]) ⟨rfl, rfl, trivial⟩ ?_
  refine PW.seq fun K1 hK1 => ?_
  refine PW.seqOps ?_
  refine OL.dp rfl ?_
  refine OL.dp rfl ?_
  refine OL.dp rfl ?_
  refine OL.dp rfl ?_
  refine OL.dp rfl ?_
  refine OL.nil ?_
  refine PW.keep (T' := [(0, _), (1, _), (10, _)]) ⟨rfl, rfl, rfl, trivial⟩ ?_
  refine PW.cond rfl (fun c10 => ?_) (fun c10 => ?_)
  · try simp only [decide_eq_true_eq, decide_eq_false_iff_not, beq_iff_eq, bne_iff_ne, beq_eq_false_iff_ne, bne_eq_false_iff_eq, Bool.not_eq_true', Bool.not_eq_false', Bool.not_eq_true, ne_eq, Decidable.not_not, Bool.false_eq_true, if_false, if_true] at c10
    refine PW.seqOps ?_
    refine OL.dp rfl ?_
    refine OL.nil ?_
    refine PW.keep (T' := [(4, _)]) ⟨rfl, trivial⟩ ?_
    refine PW.ret ?_
    change (Exit.ret = Exit.normal ∨ Exit.ret = Exit.ret) ∧ ∃ v, resV _ _ = some v ∧ _
    refine ⟨.inr rfl, _, rfl, congrArg Value.bool (Eq.symm (decide_eq_false fun e => ?_)), rfl⟩
    subst e
    exact absurd rfl c10
  · try simp only [decide_eq_true_eq, decide_eq_false_iff_not, beq_iff_eq, bne_iff_ne, beq_eq_false_iff_ne, bne_eq_false_iff_eq, Bool.not_eq_true', Bool.not_eq_false', Bool.not_eq_true, ne_eq, Decidable.not_not, Bool.false_eq_true, if_false, if_true] at c10
    refine PW.skip ?_
    refine hK1 _ _ ?_
    refine PW.keep (T' := [(0, _), (1, _)]) ⟨rfl, rfl, trivial⟩ ?_
    refine PW.seq fun K2 hK2 => ?_
    refine PW.seqOps ?_
    refine OL.dp rfl ?_
    refine OL.nil ?_
    refine PW.keep (T' := [(0, _), (1, _), (5, _)]) ⟨rfl, rfl, rfl, trivial⟩ ?_
    refine PW.block ?_
    refine PW.keep (T' := [(0, _), (1, _), (5, _)]) ⟨rfl, rfl, rfl, trivial⟩ ?_
    refine PW.loopK (I := fun m T S' => ∃ (k : Nat), (k ≤ a.length ∧ a.length = b.length ∧ m = a.length - k ∧ a.take k = b.take k) ∧ T = ([(0, .slice A a.length c), (1, .slice B b.length d), (5, .int .i64 k)] : TT) ∧ S' = S) (m := a.length) ⟨0, ⟨by omega, by omega, by omega, rfl⟩, rfl, rfl⟩ ?_
    rintro m _ _ ⟨k, ⟨hk, hab, hm, ht⟩, rfl, rfl⟩
    refine PW.seq fun K3 hK3 => ?_
    refine PW.seqOps ?_
    refine OL.dp rfl ?_
    refine OL.dp rfl ?_
    refine OL.dp rfl ?_
    refine OL.dp rfl ?_
    refine OL.nil ?_
    refine PW.keep (T' := [(0, _), (1, _), (5, _), (14, _)]) ⟨rfl, rfl, rfl, rfl, trivial⟩ ?_
    refine PW.cond rfl (fun c14 => ?_) (fun c14 => ?_)
    · try simp only [decide_eq_true_eq, decide_eq_false_iff_not, beq_iff_eq, bne_iff_ne, beq_eq_false_iff_ne, bne_eq_false_iff_eq, Bool.not_eq_true', Bool.not_eq_false', Bool.not_eq_true, ne_eq, Decidable.not_not, Bool.false_eq_true, if_false, if_true] at c14
      have hkl : k < a.length := by omega
      obtain ⟨a0, rfl⟩ := strs_some hx (by omega)
      obtain ⟨b0, rfl⟩ := strs_some hy (by omega)
      have hx2 := hx
      have hy2 := hy
      refine PW.skip ?_
      refine hK3 _ _ ?_
      refine PW.keep (T' := [(0, _), (1, _), (5, _)]) ⟨rfl, rfl, rfl, trivial⟩ ?_
      refine PW.seq fun K4 hK4 => ?_
      refine PW.block ?_
      refine PW.seq fun K5 hK5 => ?_
      refine PW.quietK Try.mixed ?_
      refine QK.dp rfl ?_
      refine QK.dp rfl ?_
      refine QK.det trivial (Yields.ixN1 rfl rfl rfl (by omega)) ?_
      refine QK.det trivial (Yields.ld rfl (str_at hx2 hkl)) ?_
      refine QK.dp rfl ?_
      refine QK.dp rfl ?_
      refine QK.det trivial (Yields.ixN1 rfl rfl rfl (by omega)) ?_
      refine QK.det trivial (Yields.ld rfl (str_at hy2 (by omega))) ?_
      refine QK.nil ?_
      change OL _ _ _ [_] _ _ _
      refine OL.dp rfl ?_
      refine OL.nil ?_
      refine hK5 _ _ ?_
      refine PW.keep (T' := [(0, _), (1, _), (5, _), (25, _)]) ⟨rfl, rfl, rfl, rfl, trivial⟩ ?_
      refine PW.cond rfl (fun c25 => ?_) (fun c25 => ?_)
      · skip
        refine PW.seqOps ?_
        refine OL.dp rfl ?_
        refine OL.nil ?_
        refine PW.keep (T' := [(4, _)]) ⟨rfl, trivial⟩ ?_
        refine PW.ret ?_
        change (Exit.ret = Exit.normal ∨ Exit.ret = Exit.ret) ∧ ∃ v, resV _ _ = some v ∧ _
        refine ⟨.inr rfl, _, rfl, congrArg Value.bool (Eq.symm (decide_eq_false fun e => ?_)), rfl⟩
        subst e
        simp at c25
      · skip
        refine PW.skip ?_
        refine hK4 _ _ ?_
        refine PW.keep (T' := [(0, _), (1, _), (5, _)]) ⟨rfl, rfl, rfl, trivial⟩ ?_
        refine PW.ops ?_
        refine OL.dp rfl ?_
        refine OL.det trivial (Yields.add64 rfl rfl (by omega) (by omega)) ?_
        refine OL.dp rfl ?_
        refine OL.nil ?_
        repeat rw [inBlk_n]
        try rw [thenK_n]
        refine LoopEnd.mk (T'' := [(0, _), (1, _), (5, _)]) ⟨rfl, rfl, rfl, trivial⟩ ?_
        have he : a[k] = b[k]'(by omega) := by
          have h1 : a[k].toList = (b[k]'(by omega)).toList := by simpa using c25
          exact toL_inj.1 h1
        exact ⟨a.length - (k + 1), by omega, k + 1, ⟨by omega, hab, rfl, by rw [ltake_snoc hkl, ltake_snoc (show k < b.length by omega), ht, he]⟩, rfl, rfl⟩
    · try simp only [decide_eq_true_eq, decide_eq_false_iff_not, beq_iff_eq, bne_iff_ne, beq_eq_false_iff_ne, bne_eq_false_iff_eq, Bool.not_eq_true', Bool.not_eq_false', Bool.not_eq_true, ne_eq, Decidable.not_not, Bool.false_eq_true, if_false, if_true] at c14
      refine PW.exit ?_
      refine hK2 _ _ ?_
      refine PW.keep (T' := []) trivial ?_
      refine PW.seqOps ?_
      refine OL.dp rfl ?_
      refine OL.nil ?_
      refine PW.keep (T' := [(4, _)]) ⟨rfl, trivial⟩ ?_
      refine PW.ret ?_
      change (Exit.ret = Exit.normal ∨ Exit.ret = Exit.ret) ∧ ∃ v, resV _ _ = some v ∧ _
      refine ⟨.inr rfl, _, rfl, congrArg Value.bool (Eq.symm (decide_eq_true ?_)), rfl⟩
      have h1 : k = a.length := by omega
      rw [h1, List.take_length] at ht
      rw [ht, hab, List.take_length]
end Go.Proofs.Gr

set_option linter.unusedVariables false
set_option linter.unusedSimpArgs false
namespace Go.Proofs.Gr
open Go.SL Go.RowKit Go.Proofs Go.GP
set_option maxHeartbeats 1000000
/-- what is read of items -/
structure ItemRd (w0 : World) (S : SS) (x : ItemM) : Prop where
  rdL : Rd w0 S x.LA (lines x.lines)
  rdM : Rd w0 S x.MA (ints x.mids)
  nL : x.lines.length ≤ 60000
  nM : x.mids.length ≤ 60000
theorem ItemRd.mono {w0 : World} {S S' : SS} {x : ItemM} (h : ItemRd w0 S x) (hs : Over S S') : ItemRd w0 S' x := ⟨h.rdL.mono hs, h.rdM.mono hs, h.nL, h.nM⟩
theorem ItemOk.rd {w0 : World} {j : Seg} {x : ItemM} {S : SS} (h : ItemOk w0 j x) (hj : j ∈ S) : ItemRd w0 S x := ⟨rd_mem h.rdL hj, rd_mem h.rdM hj, h.nL, h.nM⟩
theorem strs_snoc {v : Value} {l : List ByteArray} {z : ByteArray} {seg : Seg} (h : SlV 9 1 v (l.length + 1) (strs l ++ [Value.string z]) seg) : SlV 9 1 v (l ++ [z]).length (strs (l ++ [z])) seg := by
  rw [List.length_append]
  unfold strs at h ⊢
  rw [List.map_append]
  exact h
def pli (l : List ItemM) : List ItemP := l.map ItemM.pl
theorem pli_get {l : List ItemM} {k : Nat} (hk : k < l.length) : (pli l)[k]'(by unfold pli; rw [List.length_map]; exact hk) = l[k].pl := List.getElem_map _
theorem textI_fc {w0 : World} {S : SS} {A : Option Addr} {c : Nat} {l : List ItemM} (hx : Rd w0 S A (itemS l)) (hr : ∀ x ∈ l, ItemRd w0 S x) (hb : l.length ≤ 1000000) :
    FC Try.prog w0 36 [.slice A l.length c] S (fun u S' => ∃ seg, S' = seg :: S ∧ SlV 9 1 u (textI (pli l)).length (strs (textI (pli l))) seg ∧ (textI (pli l)).length ≤ 120003000000) := by
  have hpl0 : (pli l).length = l.length := List.length_map _
  have hNL : ∀ x ∈ pli l, x.lines.length ≤ 60000 := fun x hx => by
    obtain ⟨y, hy, rfl⟩ := List.mem_map.1 hx
    exact (hr y hy).nL
  refine FC.ofD Try.known36 (by simp) ?_
  unfold Try.pc36
  simp only [argT]
  refine PW.seqOps ?_
  refine OL.dp rfl ?_
  refine OL.nil ?_
  refine PW.keep (T' := [(0, _)]) ⟨rfl, trivial⟩ ?_
  refine PW.seqOps ?_
  refine OL.dp rfl ?_
  refine OL.nil ?_
  refine PW.keep (T' := [(0, _), (3, _)]) ⟨rfl, rfl, trivial⟩ ?_
  refine PW.seq fun K1 hK1 => ?_
  refine PW.seqOps ?_
  refine OL.subS (S' := [] :: S) (Sub.nilL (Sub.refl _)) ?_
  refine OL.dp rfl ?_
  refine OL.dp rfl ?_
  refine OL.dp rfl ?_
  refine OL.nil ?_
  refine PW.keep (T' := [(3, _), (8, _), (9, _), (10, _)]) ⟨rfl, rfl, rfl, rfl, trivial⟩ ?_
  refine PW.block ?_
  refine PW.keep (T' := [(3, _), (8, _), (9, _), (10, _)]) ⟨rfl, rfl, rfl, rfl, trivial⟩ ?_
  refine PW.loopK (I := fun mm T S' => ∃ (k : Nat) (vo : Value) (sgo : Seg), (k ≤ l.length ∧ mm = l.length - k ∧ SlV 9 1 vo (textI ((pli l).take k)).length (strs (textI ((pli l).take k))) sgo) ∧ T = ([(3, vo), (8, .slice A l.length c), (9, .int .i64 (l.length : Int)), (10, .int .i64 k)] : TT) ∧ S' = sgo :: S) (m := l.length) ⟨0, _, [], ⟨by omega, by omega, by simp [textI]; exact SlV.nil 9 1⟩, rfl, rfl⟩ ?_
  rintro mm _ _ ⟨k, vo, sgo, ⟨hk, hmm, hso⟩, rfl, rfl⟩
  refine PW.seqOps ?_
  refine OL.dp rfl ?_
  refine OL.nil ?_
  refine PW.keep (T' := [(3, _), (8, _), (9, _), (10, _), (11, _)]) ⟨rfl, rfl, rfl, rfl, rfl, trivial⟩ ?_
  refine PW.seq fun K2 hK2 => ?_
  refine PW.cond rfl (fun c11 => ?_) (fun c11 => ?_)
  · try simp only [decide_eq_true_eq, decide_eq_false_iff_not, beq_iff_eq, bne_iff_ne, beq_eq_false_iff_ne, bne_eq_false_iff_eq, Bool.not_eq_true', Bool.not_eq_false', Bool.not_eq_true, ne_eq, Decidable.not_not, Bool.false_eq_true, if_false, if_true] at c11
    have hkl : k < l.length := by omega
    obtain ⟨a0, rfl⟩ := itemS_some hx (by omega)
    have hx2 := hx
    have hrk := hr _ (List.getElem_mem hkl)
    have hnL := hrk.nL
    have hnM := hrk.nM
    have htl := textI_len hNL k (by omega)
    refine PW.skip ?_
    refine hK2 _ _ ?_
    refine PW.keep (T' := [(3, _), (8, _), (9, _), (10, _)]) ⟨rfl, rfl, rfl, rfl, trivial⟩ ?_
    refine PW.seq fun K3 hK3 => ?_
    refine PW.block ?_
    refine PW.seqOps ?_
    refine OL.det trivial (Yields.ixN rfl rfl rfl hkl) ?_
    refine OL.det trivial (Yields.ldA rfl (itemC_len _) (item_at hx2.cons hkl)) ?_
    refine OL.cons trivial OW.al ?_
    rintro _ _ ⟨r5, rfl, rfl⟩
    refine OL.cons trivial (item_st rfl rfl rfl) ?_
    rintro _ _ rfl
    change OL _ _ _ _ _ ([(r5, .cells (itemC l[k]) 73 3)] :: sgo :: S) _
    refine OL.nil ?_
    refine PW.keep (T' := [(3, _), (5, _), (8, _), (9, _), (10, _)]) ⟨rfl, rfl, rfl, rfl, rfl, trivial⟩ ?_
    refine PW.seq fun K4 hK4 => ?_
    refine PW.seqOps ?_
    refine OL.dp rfl ?_
    refine OL.det trivial (Yields.ld rfl (own_at (j := 1) (c := itemC l[k]) (E := 73) (tot := 3) (List.mem_flatten.2 ⟨_, .head _, List.mem_singleton.2 rfl⟩) rfl)) ?_
    refine OL.nil ?_
    refine PW.keep (T' := [(3, _), (5, _), (8, _), (9, _), (10, _), (15, _)]) ⟨rfl, rfl, rfl, rfl, rfl, rfl, trivial⟩ ?_
    refine PW.cond rfl (fun c15 => ?_) (fun c15 => ?_)
    · skip
      refine PW.ops ?_
      refine OL.dp rfl ?_
      apply OL.app1 (k := 1)
      · rfl
      · rfl
      · rfl
      · rfl
      · rfl
      · rfl
      · exact hso
      · rfl
      · omega
      · unfold maxLen; omega
      intro v18 seg18 hsl18
      obtain ⟨pre, hpre⟩ : ∃ z, z = textI ((pli l).take k) ++ (if l[k].block then [beginB] else []) := ⟨_, rfl⟩
      have hp : SlV 9 1 v18 pre.length (strs pre) seg18 := by
        rw [hpre, if_pos c15]
        exact strs_snoc (z := beginB) hsl18
      have hpl : pre.length ≤ 120003 * k + 1 := by rw [hpre, List.length_append]; have := textI_len hNL k (by rw [hpl0]; omega); split <;> simp <;> omega
      refine OL.dp rfl ?_
      refine OL.nil ?_
      refine hK4 _ _ ?_
      refine PW.keep (T' := [(3, _), (5, _), (8, _), (9, _), (10, _)]) ⟨rfl, rfl, rfl, rfl, rfl, trivial⟩ ?_
      refine PW.seq fun K5 hK5 => ?_
      refine PW.seqOps ?_
      refine OL.dp rfl ?_
      refine OL.det trivial (Yields.ld rfl (own_at (j := 0) (c := itemC l[k]) (E := 73) (tot := 3) (List.mem_flatten.2 ⟨_, .head _, List.mem_singleton.2 rfl⟩) rfl)) ?_
      refine OL.dp rfl ?_
      refine OL.dp rfl ?_
      refine OL.nil ?_
      refine PW.keep (T' := [(3, _), (5, _), (8, _), (9, _), (10, _), (20, _), (21, _), (22, _)]) ⟨rfl, rfl, rfl, rfl, rfl, rfl, rfl, rfl, trivial⟩ ?_
      refine PW.block ?_
      refine PW.keep (T' := [(3, _), (5, _), (8, _), (9, _), (10, _), (20, _), (21, _), (22, _)]) ⟨rfl, rfl, rfl, rfl, rfl, rfl, rfl, rfl, trivial⟩ ?_
      refine PW.loopK (I := fun mi T S' => ∃ (i : Nat) (vi : Value) (sgi : Seg), (i ≤ l[k].lines.length ∧ mi = l[k].lines.length - i ∧ SlV 9 1 vi (pre ++ rowsT l[k].pl i).length (strs (pre ++ rowsT l[k].pl i)) sgi) ∧ T = ([(3, vi), (5, .pointer (some ⟨r5, 0, none⟩)), (8, .slice (some a0) l.length c), (9, .int .i64 (l.length : Int)), (10, .int .i64 k), (20, .slice l[k].LA l[k].lines.length l[k].lc), (21, .int .i64 (l[k].lines.length : Int)), (22, .int .i64 i)] : TT) ∧ S' = [(r5, .cells (itemC l[k]) 73 3)] :: sgi :: S) (m := l[k].lines.length) ⟨0, _, _, ⟨by omega, by omega, by simpa [rowsT] using hp⟩, rfl, rfl⟩ ?_
      rintro mi _ _ ⟨i, vi, sgi, ⟨hi, hmi, hsi⟩, rfl, rfl⟩
      refine PW.seqOps ?_
      refine OL.dp rfl ?_
      refine OL.nil ?_
      refine PW.keep (T' := [(3, _), (5, _), (8, _), (9, _), (10, _), (20, _), (21, _), (22, _), (23, _)]) ⟨rfl, rfl, rfl, rfl, rfl, rfl, rfl, rfl, rfl, trivial⟩ ?_
      refine PW.seq fun K6 hK6 => ?_
      refine PW.cond rfl (fun c23 => ?_) (fun c23 => ?_)
      · try simp only [decide_eq_true_eq, decide_eq_false_iff_not, beq_iff_eq, bne_iff_ne, beq_eq_false_iff_ne, bne_eq_false_iff_eq, Bool.not_eq_true', Bool.not_eq_false', Bool.not_eq_true, ne_eq, Decidable.not_not, Bool.false_eq_true, if_false, if_true] at c23
        have hil : i < l[k].lines.length := by omega
        obtain ⟨b0, hb0⟩ := lines_some hrk.rdL (by omega)
        have hrl2 := hrk.rdL
        rw [hb0] at hrl2 ⊢
        have hrs := rowsT_succ l[k].pl i
        have hge : l[k].pl.lines[i]! = l[k].lines[i] := getElem!_pos l[k].lines i hil
        have hrl := rowsT_len l[k].pl i
        have hpa : (pre ++ rowsT l[k].pl i).length = pre.length + (rowsT l[k].pl i).length := List.length_append
        refine PW.skip ?_
        refine hK6 _ _ ?_
        refine PW.keep (T' := [(3, _), (5, _), (8, _), (9, _), (10, _), (20, _), (21, _), (22, _)]) ⟨rfl, rfl, rfl, rfl, rfl, rfl, rfl, rfl, trivial⟩ ?_
        refine PW.seq fun K7 hK7 => ?_
        refine PW.block ?_
        refine PW.seqOps ?_
        refine OL.dp rfl ?_
        refine OL.det trivial (Yields.ixN rfl rfl rfl hil) ?_
        refine OL.det trivial (Yields.ldA rfl (lineC_len _) (line_at hrl2.cons.cons hil)) ?_
        refine OL.cons trivial OW.al ?_
        rintro _ _ ⟨r7, rfl, rfl⟩
        refine OL.dp rfl ?_
        refine OL.cons trivial (line_st rfl rfl rfl) ?_
        rintro _ _ rfl
        change OL _ _ _ _ _ (lseg r7 l[k].lines[i] :: [(r5, .cells (itemC l[k]) 73 3)] :: sgi :: S) _
        refine OL.nil ?_
        refine PW.keep (T' := [(3, _), (5, _), (6, _), (7, _), (8, _), (9, _), (10, _), (20, _), (21, _), (22, _)]) ⟨rfl, rfl, rfl, rfl, rfl, rfl, rfl, rfl, rfl, rfl, trivial⟩ ?_
        refine PW.seq fun K8 hK8 => ?_
        refine PW.seqOps ?_
        refine OL.dp rfl ?_
        refine OL.det trivial (Yields.ld rfl (own_at (j := 1) (c := itemC l[k]) (E := 73) (tot := 3) (List.mem_flatten.2 ⟨_, .tail _ (.head _), List.mem_singleton.2 rfl⟩) rfl)) ?_
        refine OL.bool trivial (Yields.pure rfl) (fun g29 => ?_) (fun g29 => ?_)
        · try simp only [decide_eq_true_eq, decide_eq_false_iff_not, beq_iff_eq, bne_iff_ne, beq_eq_false_iff_ne, bne_eq_false_iff_eq, Bool.not_eq_true', Bool.not_eq_false', Bool.not_eq_true, ne_eq, Decidable.not_not, Bool.false_eq_true, if_false, if_true] at g29
          refine OL.det rfl (Yields.pure rfl) ?_
          refine OL.det rfl (Yields.ld rfl (own_at (j := 2) (c := itemC l[k]) (E := 73) (tot := 3) (List.mem_flatten.2 ⟨_, .tail _ (.head _), List.mem_singleton.2 rfl⟩) rfl)) ?_
          refine OL.det rfl (Yields.pure rfl) ?_
          refine OL.call rfl rfl (containsI_fc (hrk.rdM.cons.cons.cons) (by omega)) ?_
          rintro _ Sx ⟨rfl, hSx⟩
          rw [hSx]
          clear hSx
          refine OL.dp rfl ?_
          refine OL.nil ?_
          refine PW.keep (T' := [(3, _), (5, _), (7, _), (8, _), (9, _), (10, _), (20, _), (21, _), (22, _), (34, _)]) ⟨rfl, rfl, rfl, rfl, rfl, rfl, rfl, rfl, rfl, rfl, trivial⟩ ?_
          refine PW.cond rfl (fun c34 => ?_) (fun c34 => ?_)
          · skip
            refine PW.ops ?_
            refine OL.dp rfl ?_
            apply OL.app1 (k := 2)
            · rfl
            · rfl
            · rfl
            · rfl
            · rfl
            · rfl
            · exact hsi
            · rfl
            · omega
            · unfold maxLen; omega
            intro v37 seg37 hsl37
            have hsi2 := strs_snoc (l := pre ++ rowsT l[k].pl i) (z := middleB) hsl37
            refine OL.dp rfl ?_
            refine OL.nil ?_
            refine hK8 _ _ ?_
            refine PW.keep (T' := [(3, _), (5, _), (7, _), (8, _), (9, _), (10, _), (20, _), (21, _), (22, _)]) ⟨rfl, rfl, rfl, rfl, rfl, rfl, rfl, rfl, rfl, trivial⟩ ?_
            refine PW.ops ?_
            refine OL.dp rfl ?_
            refine OL.dp rfl ?_
            refine OL.det trivial (Yields.ld rfl (lcell_text (x := l[k].lines[i]) (E := 43) (tot := 35) (List.mem_flatten.2 ⟨_, .head _, List.mem_singleton.2 rfl⟩))) ?_
            apply OL.app1 (k := 2)
            · rfl
            · rfl
            · rfl
            · rfl
            · rfl
            · rfl
            · exact (by first | exact hsi2 | exact hsi)
            · rfl
            · (first | omega | (simp only [List.length_append, List.length_cons, List.length_nil] at *; omega))
            · unfold maxLen; (first | omega | (simp only [List.length_append, List.length_cons, List.length_nil] at *; omega))
            intro v42 seg42 hsl42
            refine OL.dp rfl ?_
            refine OL.nil ?_
            refine hK7 _ _ ?_
            refine PW.keep (T' := [(3, _), (5, _), (8, _), (9, _), (10, _), (20, _), (21, _), (22, _)]) ⟨rfl, rfl, rfl, rfl, rfl, rfl, rfl, rfl, trivial⟩ ?_
            refine PW.ops ?_
            refine OL.det trivial (Yields.add64 rfl rfl (by omega) (by omega)) ?_
            refine OL.dp rfl ?_
            refine OL.nil ?_
            repeat rw [inBlk_n]
            try rw [thenK_n]
            refine LoopEnd.mkS (Sub.drop (Sub.refl _)) (T'' := [(3, _), (5, _), (8, _), (9, _), (10, _), (20, _), (21, _), (22, _)]) ⟨rfl, rfl, rfl, rfl, rfl, rfl, rfl, rfl, trivial⟩ ?_
            rw [hb0]
            have he : pre ++ rowsT l[k].pl (i + 1) = pre ++ rowsT l[k].pl i ++ [middleB] ++ [l[k].lines[i].text] := by
              rw [hrs, hge, if_pos (by show (l[k].block && l[k].mids.contains (i : Int)) = true; rw [g29, c34]; rfl)]
              simp only [List.append_assoc]
            have := strs_snoc (z := l[k].lines[i].text) hsl42
            exact ⟨l[k].lines.length - (i + 1), by omega, i + 1, _, seg42, ⟨by omega, rfl, by rw [he]; exact this⟩, rfl, rfl⟩
          · skip
            refine PW.skip ?_
            refine hK8 _ _ ?_
            refine PW.keep (T' := [(3, _), (5, _), (7, _), (8, _), (9, _), (10, _), (20, _), (21, _), (22, _)]) ⟨rfl, rfl, rfl, rfl, rfl, rfl, rfl, rfl, rfl, trivial⟩ ?_
            refine PW.ops ?_
            refine OL.dp rfl ?_
            refine OL.dp rfl ?_
            refine OL.det trivial (Yields.ld rfl (lcell_text (x := l[k].lines[i]) (E := 43) (tot := 35) (List.mem_flatten.2 ⟨_, .head _, List.mem_singleton.2 rfl⟩))) ?_
            apply OL.app1 (k := 2)
            · rfl
            · rfl
            · rfl
            · rfl
            · rfl
            · rfl
            · exact (by first | exact hsi2 | exact hsi)
            · rfl
            · (first | omega | (simp only [List.length_append, List.length_cons, List.length_nil] at *; omega))
            · unfold maxLen; (first | omega | (simp only [List.length_append, List.length_cons, List.length_nil] at *; omega))
            intro v42 seg42 hsl42
            refine OL.dp rfl ?_
            refine OL.nil ?_
            refine hK7 _ _ ?_
            refine PW.keep (T' := [(3, _), (5, _), (8, _), (9, _), (10, _), (20, _), (21, _), (22, _)]) ⟨rfl, rfl, rfl, rfl, rfl, rfl, rfl, rfl, trivial⟩ ?_
            refine PW.ops ?_
            refine OL.det trivial (Yields.add64 rfl rfl (by omega) (by omega)) ?_
            refine OL.dp rfl ?_
            refine OL.nil ?_
            repeat rw [inBlk_n]
            try rw [thenK_n]
            refine LoopEnd.mkS (Sub.drop (Sub.refl _)) (T'' := [(3, _), (5, _), (8, _), (9, _), (10, _), (20, _), (21, _), (22, _)]) ⟨rfl, rfl, rfl, rfl, rfl, rfl, rfl, rfl, trivial⟩ ?_
            rw [hb0]
            have he : pre ++ rowsT l[k].pl (i + 1) = pre ++ rowsT l[k].pl i ++ [l[k].lines[i].text] := by
              rw [hrs, hge, if_neg (by show ¬ (l[k].block && l[k].mids.contains (i : Int)) = true; rw [g29, c34]; simp)]
              simp only [List.nil_append, List.append_assoc]
            have := strs_snoc (z := l[k].lines[i].text) hsl42
            exact ⟨l[k].lines.length - (i + 1), by omega, i + 1, _, seg42, ⟨by omega, rfl, by rw [he]; exact this⟩, rfl, rfl⟩
        · try simp only [decide_eq_true_eq, decide_eq_false_iff_not, beq_iff_eq, bne_iff_ne, beq_eq_false_iff_ne, bne_eq_false_iff_eq, Bool.not_eq_true', Bool.not_eq_false', Bool.not_eq_true, ne_eq, Decidable.not_not, Bool.false_eq_true, if_false, if_true] at g29
          refine OL.off rfl rfl ?_
          refine OL.off rfl rfl ?_
          refine OL.off rfl rfl ?_
          refine OL.off rfl rfl ?_
          refine OL.dp rfl ?_
          refine OL.nil ?_
          refine PW.keep (T' := [(3, _), (5, _), (7, _), (8, _), (9, _), (10, _), (20, _), (21, _), (22, _), (34, _)]) ⟨rfl, rfl, rfl, rfl, rfl, rfl, rfl, rfl, rfl, rfl, trivial⟩ ?_
          refine PW.ite (b := false) rfl ?_
          rw [if_neg Bool.false_ne_true]
          refine PW.skip ?_
          refine hK8 _ _ ?_
          refine PW.keep (T' := [(3, _), (5, _), (7, _), (8, _), (9, _), (10, _), (20, _), (21, _), (22, _)]) ⟨rfl, rfl, rfl, rfl, rfl, rfl, rfl, rfl, rfl, trivial⟩ ?_
          refine PW.ops ?_
          refine OL.dp rfl ?_
          refine OL.dp rfl ?_
          refine OL.det trivial (Yields.ld rfl (lcell_text (x := l[k].lines[i]) (E := 43) (tot := 35) (List.mem_flatten.2 ⟨_, .head _, List.mem_singleton.2 rfl⟩))) ?_
          apply OL.app1 (k := 2)
          · rfl
          · rfl
          · rfl
          · rfl
          · rfl
          · rfl
          · exact (by first | exact hsi2 | exact hsi)
          · rfl
          · (first | omega | (simp only [List.length_append, List.length_cons, List.length_nil] at *; omega))
          · unfold maxLen; (first | omega | (simp only [List.length_append, List.length_cons, List.length_nil] at *; omega))
          intro v42 seg42 hsl42
          refine OL.dp rfl ?_
          refine OL.nil ?_
          refine hK7 _ _ ?_
          refine PW.keep (T' := [(3, _), (5, _), (8, _), (9, _), (10, _), (20, _), (21, _), (22, _)]) ⟨rfl, rfl, rfl, rfl, rfl, rfl, rfl, rfl, trivial⟩ ?_
          refine PW.ops ?_
          refine OL.det trivial (Yields.add64 rfl rfl (by omega) (by omega)) ?_
          refine OL.dp rfl ?_
          refine OL.nil ?_
          repeat rw [inBlk_n]
          try rw [thenK_n]
          refine LoopEnd.mkS (Sub.drop (Sub.refl _)) (T'' := [(3, _), (5, _), (8, _), (9, _), (10, _), (20, _), (21, _), (22, _)]) ⟨rfl, rfl, rfl, rfl, rfl, rfl, rfl, rfl, trivial⟩ ?_
          rw [hb0]
          have he : pre ++ rowsT l[k].pl (i + 1) = pre ++ rowsT l[k].pl i ++ [l[k].lines[i].text] := by
            rw [hrs, hge, if_neg (by show ¬ (l[k].block && l[k].mids.contains (i : Int)) = true; rw [g29]; simp)]
            simp only [List.nil_append, List.append_assoc]
          have := strs_snoc (z := l[k].lines[i].text) hsl42
          exact ⟨l[k].lines.length - (i + 1), by omega, i + 1, _, seg42, ⟨by omega, rfl, by rw [he]; exact this⟩, rfl, rfl⟩
      · try simp only [decide_eq_true_eq, decide_eq_false_iff_not, beq_iff_eq, bne_iff_ne, beq_eq_false_iff_ne, bne_eq_false_iff_eq, Bool.not_eq_true', Bool.not_eq_false', Bool.not_eq_true, ne_eq, Decidable.not_not, Bool.false_eq_true, if_false, if_true] at c23
        have hie : i = l[k].lines.length := by omega
        have hpg := pli_get hkl
        have hts := textI_snoc (l := pli l) (k := k) (by omega)
        rw [hpg] at hts
        unfold oneT at hts
        have hts : textI ((pli l).take (k + 1)) = textI ((pli l).take k) ++ ((if l[k].block = true then [beginB] else []) ++ rowsT l[k].pl l[k].lines.length ++ (if l[k].block = true then [closeB] else [])) := hts
        have hrl := rowsT_len l[k].pl i
        have hpa : (pre ++ rowsT l[k].pl i).length = pre.length + (rowsT l[k].pl i).length := List.length_append
        refine PW.exit ?_
        refine hK5 _ _ ?_
        refine PW.keep (T' := [(3, _), (5, _), (8, _), (9, _), (10, _)]) ⟨rfl, rfl, rfl, rfl, rfl, trivial⟩ ?_
        refine PW.seqOps ?_
        refine OL.dp rfl ?_
        refine OL.det trivial (Yields.ld rfl (own_at (j := 1) (c := itemC l[k]) (E := 73) (tot := 3) (List.mem_flatten.2 ⟨_, .head _, List.mem_singleton.2 rfl⟩) rfl)) ?_
        refine OL.nil ?_
        refine PW.keep (T' := [(3, _), (8, _), (9, _), (10, _), (45, _)]) ⟨rfl, rfl, rfl, rfl, rfl, trivial⟩ ?_
        refine PW.cond rfl (fun c45 => ?_) (fun c45 => ?_)
        · skip
          refine PW.ops ?_
          refine OL.dp rfl ?_
          apply OL.app1 (k := 1)
          · rfl
          · rfl
          · rfl
          · rfl
          · rfl
          · rfl
          · exact hsi
          · rfl
          · omega
          · unfold maxLen; omega
          intro v48 seg48 hsl48
          refine OL.dp rfl ?_
          refine OL.nil ?_
          refine hK3 _ _ ?_
          refine PW.keep (T' := [(3, _), (8, _), (9, _), (10, _)]) ⟨rfl, rfl, rfl, rfl, trivial⟩ ?_
          refine PW.ops ?_
          refine OL.det trivial (Yields.add64 rfl rfl (by omega) (by omega)) ?_
          refine OL.dp rfl ?_
          refine OL.nil ?_
          repeat rw [inBlk_n]
          try rw [thenK_n]
          refine LoopEnd.mkS (Sub.drop (Sub.refl _)) (T'' := [(3, _), (8, _), (9, _), (10, _)]) ⟨rfl, rfl, rfl, rfl, trivial⟩ ?_
          have he : textI ((pli l).take (k + 1)) = pre ++ rowsT l[k].pl i ++ [closeB] := by
            rw [hts, hpre, hie]
            simp only [c45, if_true, List.append_assoc]
          have := strs_snoc (z := closeB) hsl48
          exact ⟨l.length - (k + 1), by omega, k + 1, _, seg48, ⟨by omega, rfl, by rw [he]; exact this⟩, rfl, rfl⟩
        · skip
          refine PW.skip ?_
          refine hK3 _ _ ?_
          refine PW.keep (T' := [(3, _), (8, _), (9, _), (10, _)]) ⟨rfl, rfl, rfl, rfl, trivial⟩ ?_
          refine PW.ops ?_
          refine OL.det trivial (Yields.add64 rfl rfl (by omega) (by omega)) ?_
          refine OL.dp rfl ?_
          refine OL.nil ?_
          repeat rw [inBlk_n]
          try rw [thenK_n]
          refine LoopEnd.mkS (Sub.drop (Sub.refl _)) (T'' := [(3, _), (8, _), (9, _), (10, _)]) ⟨rfl, rfl, rfl, rfl, trivial⟩ ?_
          have he : textI ((pli l).take (k + 1)) = pre ++ rowsT l[k].pl i := by
            rw [hts, hpre, hie]
            simp only [c45, Bool.false_eq_true, if_false, List.append_nil, List.nil_append, List.append_assoc]
          exact ⟨l.length - (k + 1), by omega, k + 1, vi, sgi, ⟨by omega, rfl, by rw [he]; exact hsi⟩, rfl, rfl⟩
    · skip
      obtain ⟨pre, hpre⟩ : ∃ z, z = textI ((pli l).take k) ++ (if l[k].block then [beginB] else []) := ⟨_, rfl⟩
      have hp : SlV 9 1 vo pre.length (strs pre) sgo := by
        rw [hpre, if_neg (by rw [c15]; simp), List.append_nil]
        exact hso
      have hpl : pre.length ≤ 120003 * k + 1 := by rw [hpre, List.length_append]; have := textI_len hNL k (by rw [hpl0]; omega); split <;> simp <;> omega
      refine PW.skip ?_
      refine hK4 _ _ ?_
      refine PW.keep (T' := [(3, _), (5, _), (8, _), (9, _), (10, _)]) ⟨rfl, rfl, rfl, rfl, rfl, trivial⟩ ?_
      refine PW.seq fun K9 hK9 => ?_
      refine PW.seqOps ?_
      refine OL.dp rfl ?_
      refine OL.det trivial (Yields.ld rfl (own_at (j := 0) (c := itemC l[k]) (E := 73) (tot := 3) (List.mem_flatten.2 ⟨_, .head _, List.mem_singleton.2 rfl⟩) rfl)) ?_
      refine OL.dp rfl ?_
      refine OL.dp rfl ?_
      refine OL.nil ?_
      refine PW.keep (T' := [(3, _), (5, _), (8, _), (9, _), (10, _), (20, _), (21, _), (22, _)]) ⟨rfl, rfl, rfl, rfl, rfl, rfl, rfl, rfl, trivial⟩ ?_
      refine PW.block ?_
      refine PW.keep (T' := [(3, _), (5, _), (8, _), (9, _), (10, _), (20, _), (21, _), (22, _)]) ⟨rfl, rfl, rfl, rfl, rfl, rfl, rfl, rfl, trivial⟩ ?_
      refine PW.loopK (I := fun mi T S' => ∃ (i : Nat) (vi : Value) (sgi : Seg), (i ≤ l[k].lines.length ∧ mi = l[k].lines.length - i ∧ SlV 9 1 vi (pre ++ rowsT l[k].pl i).length (strs (pre ++ rowsT l[k].pl i)) sgi) ∧ T = ([(3, vi), (5, .pointer (some ⟨r5, 0, none⟩)), (8, .slice (some a0) l.length c), (9, .int .i64 (l.length : Int)), (10, .int .i64 k), (20, .slice l[k].LA l[k].lines.length l[k].lc), (21, .int .i64 (l[k].lines.length : Int)), (22, .int .i64 i)] : TT) ∧ S' = [(r5, .cells (itemC l[k]) 73 3)] :: sgi :: S) (m := l[k].lines.length) ⟨0, _, _, ⟨by omega, by omega, by simpa [rowsT] using hp⟩, rfl, rfl⟩ ?_
      rintro mi _ _ ⟨i, vi, sgi, ⟨hi, hmi, hsi⟩, rfl, rfl⟩
      refine PW.seqOps ?_
      refine OL.dp rfl ?_
      refine OL.nil ?_
      refine PW.keep (T' := [(3, _), (5, _), (8, _), (9, _), (10, _), (20, _), (21, _), (22, _), (23, _)]) ⟨rfl, rfl, rfl, rfl, rfl, rfl, rfl, rfl, rfl, trivial⟩ ?_
      refine PW.seq fun K10 hK10 => ?_
      refine PW.cond rfl (fun c23 => ?_) (fun c23 => ?_)
      · try simp only [decide_eq_true_eq, decide_eq_false_iff_not, beq_iff_eq, bne_iff_ne, beq_eq_false_iff_ne, bne_eq_false_iff_eq, Bool.not_eq_true', Bool.not_eq_false', Bool.not_eq_true, ne_eq, Decidable.not_not, Bool.false_eq_true, if_false, if_true] at c23
        have hil : i < l[k].lines.length := by omega
        obtain ⟨b0, hb0⟩ := lines_some hrk.rdL (by omega)
        have hrl2 := hrk.rdL
        rw [hb0] at hrl2 ⊢
        have hrs := rowsT_succ l[k].pl i
        have hge : l[k].pl.lines[i]! = l[k].lines[i] := getElem!_pos l[k].lines i hil
        have hrl := rowsT_len l[k].pl i
        have hpa : (pre ++ rowsT l[k].pl i).length = pre.length + (rowsT l[k].pl i).length := List.length_append
        refine PW.skip ?_
        refine hK10 _ _ ?_
        refine PW.keep (T' := [(3, _), (5, _), (8, _), (9, _), (10, _), (20, _), (21, _), (22, _)]) ⟨rfl, rfl, rfl, rfl, rfl, rfl, rfl, rfl, trivial⟩ ?_
        refine PW.seq fun K11 hK11 => ?_
        refine PW.block ?_
        refine PW.seqOps ?_
        refine OL.dp rfl ?_
        refine OL.det trivial (Yields.ixN rfl rfl rfl hil) ?_
        refine OL.det trivial (Yields.ldA rfl (lineC_len _) (line_at hrl2.cons.cons hil)) ?_
        refine OL.cons trivial OW.al ?_
        rintro _ _ ⟨r7, rfl, rfl⟩
        refine OL.dp rfl ?_
        refine OL.cons trivial (line_st rfl rfl rfl) ?_
        rintro _ _ rfl
        change OL _ _ _ _ _ (lseg r7 l[k].lines[i] :: [(r5, .cells (itemC l[k]) 73 3)] :: sgi :: S) _
        refine OL.nil ?_
        refine PW.keep (T' := [(3, _), (5, _), (6, _), (7, _), (8, _), (9, _), (10, _), (20, _), (21, _), (22, _)]) ⟨rfl, rfl, rfl, rfl, rfl, rfl, rfl, rfl, rfl, rfl, trivial⟩ ?_
        refine PW.seq fun K12 hK12 => ?_
        refine PW.seqOps ?_
        refine OL.dp rfl ?_
        refine OL.det trivial (Yields.ld rfl (own_at (j := 1) (c := itemC l[k]) (E := 73) (tot := 3) (List.mem_flatten.2 ⟨_, .tail _ (.head _), List.mem_singleton.2 rfl⟩) rfl)) ?_
        refine OL.bool trivial (Yields.pure rfl) (fun g29 => ?_) (fun g29 => ?_)
        · try simp only [decide_eq_true_eq, decide_eq_false_iff_not, beq_iff_eq, bne_iff_ne, beq_eq_false_iff_ne, bne_eq_false_iff_eq, Bool.not_eq_true', Bool.not_eq_false', Bool.not_eq_true, ne_eq, Decidable.not_not, Bool.false_eq_true, if_false, if_true] at g29
          refine OL.det rfl (Yields.pure rfl) ?_
          refine OL.det rfl (Yields.ld rfl (own_at (j := 2) (c := itemC l[k]) (E := 73) (tot := 3) (List.mem_flatten.2 ⟨_, .tail _ (.head _), List.mem_singleton.2 rfl⟩) rfl)) ?_
          refine OL.det rfl (Yields.pure rfl) ?_
          refine OL.call rfl rfl (containsI_fc (hrk.rdM.cons.cons.cons) (by omega)) ?_
          rintro _ Sx ⟨rfl, hSx⟩
          rw [hSx]
          clear hSx
          refine OL.dp rfl ?_
          refine OL.nil ?_
          refine PW.keep (T' := [(3, _), (5, _), (7, _), (8, _), (9, _), (10, _), (20, _), (21, _), (22, _), (34, _)]) ⟨rfl, rfl, rfl, rfl, rfl, rfl, rfl, rfl, rfl, rfl, trivial⟩ ?_
          refine PW.cond rfl (fun c34 => ?_) (fun c34 => ?_)
          · skip
            refine PW.ops ?_
            refine OL.dp rfl ?_
            apply OL.app1 (k := 2)
            · rfl
            · rfl
            · rfl
            · rfl
            · rfl
            · rfl
            · exact hsi
            · rfl
            · omega
            · unfold maxLen; omega
            intro v37 seg37 hsl37
            have hsi2 := strs_snoc (l := pre ++ rowsT l[k].pl i) (z := middleB) hsl37
            refine OL.dp rfl ?_
            refine OL.nil ?_
            refine hK12 _ _ ?_
            refine PW.keep (T' := [(3, _), (5, _), (7, _), (8, _), (9, _), (10, _), (20, _), (21, _), (22, _)]) ⟨rfl, rfl, rfl, rfl, rfl, rfl, rfl, rfl, rfl, trivial⟩ ?_
            refine PW.ops ?_
            refine OL.dp rfl ?_
            refine OL.dp rfl ?_
            refine OL.det trivial (Yields.ld rfl (lcell_text (x := l[k].lines[i]) (E := 43) (tot := 35) (List.mem_flatten.2 ⟨_, .head _, List.mem_singleton.2 rfl⟩))) ?_
            apply OL.app1 (k := 2)
            · rfl
            · rfl
            · rfl
            · rfl
            · rfl
            · rfl
            · exact (by first | exact hsi2 | exact hsi)
            · rfl
            · (first | omega | (simp only [List.length_append, List.length_cons, List.length_nil] at *; omega))
            · unfold maxLen; (first | omega | (simp only [List.length_append, List.length_cons, List.length_nil] at *; omega))
            intro v42 seg42 hsl42
            refine OL.dp rfl ?_
            refine OL.nil ?_
            refine hK11 _ _ ?_
            refine PW.keep (T' := [(3, _), (5, _), (8, _), (9, _), (10, _), (20, _), (21, _), (22, _)]) ⟨rfl, rfl, rfl, rfl, rfl, rfl, rfl, rfl, trivial⟩ ?_
            refine PW.ops ?_
            refine OL.det trivial (Yields.add64 rfl rfl (by omega) (by omega)) ?_
            refine OL.dp rfl ?_
            refine OL.nil ?_
            repeat rw [inBlk_n]
            try rw [thenK_n]
            refine LoopEnd.mkS (Sub.drop (Sub.refl _)) (T'' := [(3, _), (5, _), (8, _), (9, _), (10, _), (20, _), (21, _), (22, _)]) ⟨rfl, rfl, rfl, rfl, rfl, rfl, rfl, rfl, trivial⟩ ?_
            rw [hb0]
            have he : pre ++ rowsT l[k].pl (i + 1) = pre ++ rowsT l[k].pl i ++ [middleB] ++ [l[k].lines[i].text] := by
              rw [hrs, hge, if_pos (by show (l[k].block && l[k].mids.contains (i : Int)) = true; rw [g29, c34]; rfl)]
              simp only [List.append_assoc]
            have := strs_snoc (z := l[k].lines[i].text) hsl42
            exact ⟨l[k].lines.length - (i + 1), by omega, i + 1, _, seg42, ⟨by omega, rfl, by rw [he]; exact this⟩, rfl, rfl⟩
          · skip
            refine PW.skip ?_
            refine hK12 _ _ ?_
            refine PW.keep (T' := [(3, _), (5, _), (7, _), (8, _), (9, _), (10, _), (20, _), (21, _), (22, _)]) ⟨rfl, rfl, rfl, rfl, rfl, rfl, rfl, rfl, rfl, trivial⟩ ?_
            refine PW.ops ?_
            refine OL.dp rfl ?_
            refine OL.dp rfl ?_
            refine OL.det trivial (Yields.ld rfl (lcell_text (x := l[k].lines[i]) (E := 43) (tot := 35) (List.mem_flatten.2 ⟨_, .head _, List.mem_singleton.2 rfl⟩))) ?_
            apply OL.app1 (k := 2)
            · rfl
            · rfl
            · rfl
            · rfl
            · rfl
            · rfl
            · exact (by first | exact hsi2 | exact hsi)
            · rfl
            · (first | omega | (simp only [List.length_append, List.length_cons, List.length_nil] at *; omega))
            · unfold maxLen; (first | omega | (simp only [List.length_append, List.length_cons, List.length_nil] at *; omega))
            intro v42 seg42 hsl42
            refine OL.dp rfl ?_
            refine OL.nil ?_
            refine hK11 _ _ ?_
            refine PW.keep (T' := [(3, _), (5, _), (8, _), (9, _), (10, _), (20, _), (21, _), (22, _)]) ⟨rfl, rfl, rfl, rfl, rfl, rfl, rfl, rfl, trivial⟩ ?_
            refine PW.ops ?_
            refine OL.det trivial (Yields.add64 rfl rfl (by omega) (by omega)) ?_
            refine OL.dp rfl ?_
            refine OL.nil ?_
            repeat rw [inBlk_n]
            try rw [thenK_n]
            refine LoopEnd.mkS (Sub.drop (Sub.refl _)) (T'' := [(3, _), (5, _), (8, _), (9, _), (10, _), (20, _), (21, _), (22, _)]) ⟨rfl, rfl, rfl, rfl, rfl, rfl, rfl, rfl, trivial⟩ ?_
            rw [hb0]
            have he : pre ++ rowsT l[k].pl (i + 1) = pre ++ rowsT l[k].pl i ++ [l[k].lines[i].text] := by
              rw [hrs, hge, if_neg (by show ¬ (l[k].block && l[k].mids.contains (i : Int)) = true; rw [g29, c34]; simp)]
              simp only [List.nil_append, List.append_assoc]
            have := strs_snoc (z := l[k].lines[i].text) hsl42
            exact ⟨l[k].lines.length - (i + 1), by omega, i + 1, _, seg42, ⟨by omega, rfl, by rw [he]; exact this⟩, rfl, rfl⟩
        · try simp only [decide_eq_true_eq, decide_eq_false_iff_not, beq_iff_eq, bne_iff_ne, beq_eq_false_iff_ne, bne_eq_false_iff_eq, Bool.not_eq_true', Bool.not_eq_false', Bool.not_eq_true, ne_eq, Decidable.not_not, Bool.false_eq_true, if_false, if_true] at g29
          refine OL.off rfl rfl ?_
          refine OL.off rfl rfl ?_
          refine OL.off rfl rfl ?_
          refine OL.off rfl rfl ?_
          refine OL.dp rfl ?_
          refine OL.nil ?_
          refine PW.keep (T' := [(3, _), (5, _), (7, _), (8, _), (9, _), (10, _), (20, _), (21, _), (22, _), (34, _)]) ⟨rfl, rfl, rfl, rfl, rfl, rfl, rfl, rfl, rfl, rfl, trivial⟩ ?_
          refine PW.ite (b := false) rfl ?_
          rw [if_neg Bool.false_ne_true]
          refine PW.skip ?_
          refine hK12 _ _ ?_
          refine PW.keep (T' := [(3, _), (5, _), (7, _), (8, _), (9, _), (10, _), (20, _), (21, _), (22, _)]) ⟨rfl, rfl, rfl, rfl, rfl, rfl, rfl, rfl, rfl, trivial⟩ ?_
          refine PW.ops ?_
          refine OL.dp rfl ?_
          refine OL.dp rfl ?_
          refine OL.det trivial (Yields.ld rfl (lcell_text (x := l[k].lines[i]) (E := 43) (tot := 35) (List.mem_flatten.2 ⟨_, .head _, List.mem_singleton.2 rfl⟩))) ?_
          apply OL.app1 (k := 2)
          · rfl
          · rfl
          · rfl
          · rfl
          · rfl
          · rfl
          · exact (by first | exact hsi2 | exact hsi)
          · rfl
          · (first | omega | (simp only [List.length_append, List.length_cons, List.length_nil] at *; omega))
          · unfold maxLen; (first | omega | (simp only [List.length_append, List.length_cons, List.length_nil] at *; omega))
          intro v42 seg42 hsl42
          refine OL.dp rfl ?_
          refine OL.nil ?_
          refine hK11 _ _ ?_
          refine PW.keep (T' := [(3, _), (5, _), (8, _), (9, _), (10, _), (20, _), (21, _), (22, _)]) ⟨rfl, rfl, rfl, rfl, rfl, rfl, rfl, rfl, trivial⟩ ?_
          refine PW.ops ?_
          refine OL.det trivial (Yields.add64 rfl rfl (by omega) (by omega)) ?_
          refine OL.dp rfl ?_
          refine OL.nil ?_
          repeat rw [inBlk_n]
          try rw [thenK_n]
          refine LoopEnd.mkS (Sub.drop (Sub.refl _)) (T'' := [(3, _), (5, _), (8, _), (9, _), (10, _), (20, _), (21, _), (22, _)]) ⟨rfl, rfl, rfl, rfl, rfl, rfl, rfl, rfl, trivial⟩ ?_
          rw [hb0]
          have he : pre ++ rowsT l[k].pl (i + 1) = pre ++ rowsT l[k].pl i ++ [l[k].lines[i].text] := by
            rw [hrs, hge, if_neg (by show ¬ (l[k].block && l[k].mids.contains (i : Int)) = true; rw [g29]; simp)]
            simp only [List.nil_append, List.append_assoc]
          have := strs_snoc (z := l[k].lines[i].text) hsl42
          exact ⟨l[k].lines.length - (i + 1), by omega, i + 1, _, seg42, ⟨by omega, rfl, by rw [he]; exact this⟩, rfl, rfl⟩
      · try simp only [decide_eq_true_eq, decide_eq_false_iff_not, beq_iff_eq, bne_iff_ne, beq_eq_false_iff_ne, bne_eq_false_iff_eq, Bool.not_eq_true', Bool.not_eq_false', Bool.not_eq_true, ne_eq, Decidable.not_not, Bool.false_eq_true, if_false, if_true] at c23
        have hie : i = l[k].lines.length := by omega
        have hpg := pli_get hkl
        have hts := textI_snoc (l := pli l) (k := k) (by omega)
        rw [hpg] at hts
        unfold oneT at hts
        have hts : textI ((pli l).take (k + 1)) = textI ((pli l).take k) ++ ((if l[k].block = true then [beginB] else []) ++ rowsT l[k].pl l[k].lines.length ++ (if l[k].block = true then [closeB] else [])) := hts
        have hrl := rowsT_len l[k].pl i
        have hpa : (pre ++ rowsT l[k].pl i).length = pre.length + (rowsT l[k].pl i).length := List.length_append
        refine PW.exit ?_
        refine hK9 _ _ ?_
        refine PW.keep (T' := [(3, _), (5, _), (8, _), (9, _), (10, _)]) ⟨rfl, rfl, rfl, rfl, rfl, trivial⟩ ?_
        refine PW.seqOps ?_
        refine OL.dp rfl ?_
        refine OL.det trivial (Yields.ld rfl (own_at (j := 1) (c := itemC l[k]) (E := 73) (tot := 3) (List.mem_flatten.2 ⟨_, .head _, List.mem_singleton.2 rfl⟩) rfl)) ?_
        refine OL.nil ?_
        refine PW.keep (T' := [(3, _), (8, _), (9, _), (10, _), (45, _)]) ⟨rfl, rfl, rfl, rfl, rfl, trivial⟩ ?_
        refine PW.cond rfl (fun c45 => ?_) (fun c45 => ?_)
        · skip
          refine PW.ops ?_
          refine OL.dp rfl ?_
          apply OL.app1 (k := 1)
          · rfl
          · rfl
          · rfl
          · rfl
          · rfl
          · rfl
          · exact hsi
          · rfl
          · omega
          · unfold maxLen; omega
          intro v48 seg48 hsl48
          refine OL.dp rfl ?_
          refine OL.nil ?_
          refine hK3 _ _ ?_
          refine PW.keep (T' := [(3, _), (8, _), (9, _), (10, _)]) ⟨rfl, rfl, rfl, rfl, trivial⟩ ?_
          refine PW.ops ?_
          refine OL.det trivial (Yields.add64 rfl rfl (by omega) (by omega)) ?_
          refine OL.dp rfl ?_
          refine OL.nil ?_
          repeat rw [inBlk_n]
          try rw [thenK_n]
          refine LoopEnd.mkS (Sub.drop (Sub.refl _)) (T'' := [(3, _), (8, _), (9, _), (10, _)]) ⟨rfl, rfl, rfl, rfl, trivial⟩ ?_
          have he : textI ((pli l).take (k + 1)) = pre ++ rowsT l[k].pl i ++ [closeB] := by
            rw [hts, hpre, hie]
            simp only [c45, if_true, List.append_assoc]
          have := strs_snoc (z := closeB) hsl48
          exact ⟨l.length - (k + 1), by omega, k + 1, _, seg48, ⟨by omega, rfl, by rw [he]; exact this⟩, rfl, rfl⟩
        · skip
          refine PW.skip ?_
          refine hK3 _ _ ?_
          refine PW.keep (T' := [(3, _), (8, _), (9, _), (10, _)]) ⟨rfl, rfl, rfl, rfl, trivial⟩ ?_
          refine PW.ops ?_
          refine OL.det trivial (Yields.add64 rfl rfl (by omega) (by omega)) ?_
          refine OL.dp rfl ?_
          refine OL.nil ?_
          repeat rw [inBlk_n]
          try rw [thenK_n]
          refine LoopEnd.mkS (Sub.drop (Sub.refl _)) (T'' := [(3, _), (8, _), (9, _), (10, _)]) ⟨rfl, rfl, rfl, rfl, trivial⟩ ?_
          have he : textI ((pli l).take (k + 1)) = pre ++ rowsT l[k].pl i := by
            rw [hts, hpre, hie]
            simp only [c45, Bool.false_eq_true, if_false, List.append_nil, List.nil_append, List.append_assoc]
          exact ⟨l.length - (k + 1), by omega, k + 1, vi, sgi, ⟨by omega, rfl, by rw [he]; exact hsi⟩, rfl, rfl⟩
  · try simp only [decide_eq_true_eq, decide_eq_false_iff_not, beq_iff_eq, bne_iff_ne, beq_eq_false_iff_ne, bne_eq_false_iff_eq, Bool.not_eq_true', Bool.not_eq_false', Bool.not_eq_true, ne_eq, Decidable.not_not, Bool.false_eq_true, if_false, if_true] at c11
    refine PW.exit ?_
    refine hK1 _ _ ?_
    refine PW.keep (T' := [(3, _)]) ⟨rfl, trivial⟩ ?_
    refine PW.seqOps ?_
    refine OL.dp rfl ?_
    refine OL.dp rfl ?_
    refine OL.nil ?_
    refine PW.keep (T' := [(2, _)]) ⟨rfl, trivial⟩ ?_
    refine PW.ret ?_
    change (Exit.ret = Exit.normal ∨ Exit.ret = Exit.ret) ∧ ∃ v, resV _ _ = some v ∧ _
    have hke : k = (pli l).length := by omega
    rw [hke, List.take_length] at hso
    have := textI_len hNL (pli l).length (Nat.le_refl _)
    rw [List.take_length] at this
    exact ⟨.inr rfl, _, rfl, _, Sub.refl _, sgo, rfl, hso, by omega⟩
end Go.Proofs.Gr

set_option linter.unusedVariables false
set_option linter.unusedSectionVars false
namespace Go.Proofs.Gr
open Go.SL Go.RowKit Go.Proofs Go.GP
section
variable (bf : Vtx → Vtx → Bool)
def ordF (a b : Vtx) : Bool := bf a b || bf b a
def midsF (l : List LineP) (k : Nat) : List Int := ((List.range k).filter fun i => decide (0 < i) && !ordF bf l[i - 1]!.v l[i]!.v).map Int.ofNat
def blockF (l : List LineP) : ItemP := ⟨l, true, midsF bf l l.length⟩
def solidF (l : List LineP) (x : LineP) : Bool := l.all fun y => decide (x.v = y.v) || ordF bf x.v y.v
def shutF (open_ : List LineP) : List ItemP := if open_ = [] then [] else [blockF bf open_]
def stepF (l : List LineP) (st : List ItemP × List LineP) (x : LineP) : List ItemP × List LineP :=
  if solidF bf l x then (st.1 ++ shutF bf st.2 ++ [⟨[x], false, []⟩], []) else (st.1, st.2 ++ [x])
def foldF (l : List LineP) (k : Nat) : List ItemP × List LineP := (l.take k).foldl (stepF bf l) ([], [])
def itemsF (l : List LineP) : List ItemP := (foldF bf l l.length).1 ++ shutF bf (foldF bf l l.length).2
end
theorem itemsF_eq (ps : List PartP) (l : List LineP) : itemsL ps l = itemsF (befP ps) l := by
  have h1 : stepI ps l = stepF (befP ps) l := by
    funext st x
    unfold stepI stepF shut shutF blockP blockF midsK midsF solidP solidF ordP ordF
    rfl
  unfold itemsL itemsF foldI foldF
  rw [h1]
  unfold shut shutF blockP blockF midsK midsF ordP ordF
  rfl
theorem befP_eq {ps : List PartP} (hc : ((allV ps).all fun a => closedB (allE ps) a) = true) : befP ps = befC ps := by
  funext a b
  rw [Bool.eq_iff_iff, befP_iff]
  by_cases ha : a ∈ allV ps
  · exact (befC_iff (List.all_eq_true.1 hc a ha)).symm
  · by_cases hr : a = rootV
    · unfold Bef befC
      simp only [Bool.and_eq_true, hasC_iff, Bool.or_eq_true, decide_eq_true_eq, Bool.not_eq_true', decide_eq_false_iff_not, and_assoc, ne_eq, hr, true_or]
    · have h1 : ¬ Bef ps a b := by
        rintro ⟨h, _, _, h2, _⟩
        rcases h with h | h | h
        · exact hr h
        · exact h2 h
        · exact ha h
      have h2 : befC ps a b = false := by
        unfold befC hasC
        by_cases he : a = endV
        · simp [he]
        · simp [ha, hr, he]
      simp [h1, h2]
theorem items_comp {ps : List PartP} (hc : ((allV ps).all fun a => closedB (allE ps) a) = true) : itemsP ps = itemsF (befC ps) (live (linesP ps)) := by
  unfold itemsP
  rw [itemsF_eq, befP_eq hc]
end Go.Proofs.Gr

set_option linter.unusedVariables false
set_option linter.unusedSimpArgs false
namespace Go.Proofs.Gr
open Go.SL Go.RowKit Go.Proofs Go.GP
set_option maxHeartbeats 1000000
/-- a part of lines alone -/
def mkP (b : UInt8) (up down : Vtx) (A : Option Addr) (c : Nat) (l : List ByteArray) : PartM := ⟨hb1 b, 0, 0, up, down, A, c, l, none, 0, []⟩
def zP : List Value := List.replicate 32 (.int .u8 0) ++ [.int .i64 0, .int .i64 0] ++ vtxL v0 ++ vtxL v0 ++ [.slice none 0 0, .slice none 0 0]
theorem setMid {a b c d e : List Value} {n : Nat} (h : c = a ++ (b ++ d)) (ha : a.length = n) (hb : b.length = e.length) : setAt c n e = a ++ (e ++ d) := by
  subst h
  rw [setAt_eq _ _ _ (by simp only [List.length_append]; omega), List.take_append_of_le_length (by omega), List.take_of_length_le (by omega), List.drop_append, List.drop_eq_nil_of_le (by omega), List.drop_append, List.drop_eq_nil_of_le (by omega), show n + e.length - a.length - b.length = 0 by omega]
  simp
theorem fill_part {T : TT} {b : UInt8} {up down : Vtx} {A : Option Addr} {c : Nat} {l : List ByteArray} {x y z w : PV} (h1 : x.val T = some (.agg (bytesC (hb1 b).1).toArray)) (h2 : y.val T = some (vtxV up)) (h3 : z.val T = some (vtxV down)) (h4 : w.val T = some (.slice A l.length c)) :
    fillP T zP [(0, 32, x), (34, 33, y), (67, 33, z), (100, 1, w)] = some (partC (mkP b up down A c l)) := by
  have hb := hb_len (hb1 b)
  have hu := vtxL_len up
  have hd := vtxL_len down
  have h0 := vtxL_len v0
  obtain ⟨N, hN⟩ : ∃ N : List Value, N = [.int .i64 0, .int .i64 0] := ⟨_, rfl⟩
  obtain ⟨Z, hZ⟩ : ∃ Z : List Value, Z = [.slice none 0 0, .slice none 0 0] := ⟨_, rfl⟩
  have e0 : zP = [] ++ (List.replicate 32 (.int .u8 0) ++ (N ++ (vtxL v0 ++ (vtxL v0 ++ Z)))) := by rw [hN, hZ]; unfold zP; simp only [List.append_assoc, List.nil_append]
  have hr : (List.replicate 32 (Value.int .u8 0)).length = (bytesC (hb1 b).1).length := by rw [hb, List.length_replicate]
  have s1 : setAt zP 0 (bytesC (hb1 b).1) = bytesC (hb1 b).1 ++ (N ++ (vtxL v0 ++ (vtxL v0 ++ Z))) := by
    have := setMid (n := 0) e0 rfl hr
    simpa only [List.nil_append] using this
  have hNl : N.length = 2 := by rw [hN]; rfl
  have s2 : setAt (bytesC (hb1 b).1 ++ (N ++ (vtxL v0 ++ (vtxL v0 ++ Z)))) 34 (vtxL up) = bytesC (hb1 b).1 ++ (N ++ (vtxL up ++ (vtxL v0 ++ Z))) := by
    have := setMid (a := bytesC (hb1 b).1 ++ N) (b := vtxL v0) (c := bytesC (hb1 b).1 ++ (N ++ (vtxL v0 ++ (vtxL v0 ++ Z)))) (d := vtxL v0 ++ Z) (e := vtxL up) (n := 34) (by simp only [List.append_assoc]) (by rw [List.length_append, hb, hNl]) (by omega)
    simpa only [List.append_assoc] using this
  have s3 : setAt (bytesC (hb1 b).1 ++ (N ++ (vtxL up ++ (vtxL v0 ++ Z)))) 67 (vtxL down) = bytesC (hb1 b).1 ++ (N ++ (vtxL up ++ (vtxL down ++ Z))) := by
    have := setMid (a := bytesC (hb1 b).1 ++ N ++ vtxL up) (b := vtxL v0) (c := bytesC (hb1 b).1 ++ (N ++ (vtxL up ++ (vtxL v0 ++ Z)))) (d := Z) (e := vtxL down) (n := 67) (by simp only [List.append_assoc]) (by simp only [List.length_append]; omega) (by omega)
    simpa only [List.append_assoc] using this
  have s4 : setAt (bytesC (hb1 b).1 ++ (N ++ (vtxL up ++ (vtxL down ++ Z)))) 100 [.slice A l.length c] = bytesC (hb1 b).1 ++ (N ++ (vtxL up ++ (vtxL down ++ ([.slice A l.length c] ++ [.slice none 0 0])))) := by
    have := setMid (a := bytesC (hb1 b).1 ++ N ++ vtxL up ++ vtxL down) (b := [Value.slice none 0 0]) (c := bytesC (hb1 b).1 ++ (N ++ (vtxL up ++ (vtxL down ++ Z)))) (d := [.slice none 0 0]) (e := [.slice A l.length c]) (n := 100) (by rw [hZ]; simp only [List.append_assoc]; rfl) (by simp only [List.length_append]; omega) rfl
    simpa only [List.append_assoc] using this
  have hzl : zP.length = 102 := by rw [e0]; simp only [List.length_append, List.length_replicate, List.length_nil, hNl, h0, hZ]; rfl
  have l1 : (bytesC (hb1 b).1 ++ (N ++ (vtxL v0 ++ (vtxL v0 ++ Z)))).length = 102 := by simp only [List.length_append, hb, hNl, h0, hZ]; rfl
  have l2 : (bytesC (hb1 b).1 ++ (N ++ (vtxL up ++ (vtxL v0 ++ Z)))).length = 102 := by simp only [List.length_append, hb, hNl, h0, hu, hZ]; rfl
  have l3 : (bytesC (hb1 b).1 ++ (N ++ (vtxL up ++ (vtxL down ++ Z)))).length = 102 := by simp only [List.length_append, hb, hNl, hd, hu, hZ]; rfl
  simp only [fillP, h1, h2, h3, h4]
  rw [if_pos ⟨(List.size_toArray).trans hb, by omega⟩]
  rw [show (Value.agg (bytesC (hb1 b).1).toArray).cells.toList = bytesC (hb1 b).1 from rfl, s1, if_pos ⟨(List.size_toArray).trans hu, by omega⟩]
  rw [show (vtxV up).cells.toList = vtxL up from rfl, s2, if_pos ⟨(List.size_toArray).trans hd, by omega⟩]
  rw [show (vtxV down).cells.toList = vtxL down from rfl, s3, if_pos ⟨rfl, by omega⟩]
  rw [show (Value.slice A l.length c).cells.toList = [.slice A l.length c] from rfl, s4]
  rw [partC_split, hN]
  rfl
theorem part_fc {w0 : World} {S : SS} {b : UInt8} {up down : Vtx} {A : Option Addr} {c : Nat} {l : List ByteArray} : FC Try.prog w0 42 [.int .u8 (b.toNat : Int), vtxV up, vtxV down, .slice A l.length c] S (fun v S' => v = partV (mkP b up down A c l) ∧ S' = S) := by
  refine FC.ofC Try.known42 (by simp) ?_
  unfold Try.pc42
  simp only [argT]
  refine PW.seqOps ?_
  refine OL.cons trivial (OW.bx rfl) ?_
  rintro _ _ ⟨r5, rfl, rfl⟩
  rw [vtx_box, vtxL_len]
  refine OL.cons trivial (OW.bx rfl) ?_
  rintro _ _ ⟨r6, rfl, rfl⟩
  rw [vtx_box, vtxL_len]
  refine OL.cons trivial OW.al ?_
  rintro _ _ ⟨r8, rfl, rfl⟩
  refine OL.nil ?_
  refine PW.keep (T' := [(0, _), (3, _), (5, _), (6, _), (8, _)]) ⟨rfl, rfl, rfl, rfl, rfl, trivial⟩ ?_
  refine PW.seqOps ?_
  refine OL.dp rfl ?_
  refine OL.det trivial (Yields.bldA (cs := bytesC (hb1 b).1) rfl) ?_
  refine OL.det trivial (Yields.ldA rfl (vtxL_len _) (all_at (List.mem_flatten.2 ⟨_, .tail _ (.tail _ (.head _)), List.mem_singleton.2 rfl⟩))) ?_
  refine OL.det trivial (Yields.ldA rfl (vtxL_len _) (all_at (List.mem_flatten.2 ⟨_, .tail _ (.head _), List.mem_singleton.2 rfl⟩))) ?_
  refine OL.dp rfl ?_
  refine OL.det trivial (Yields.build (fill_part rfl rfl rfl rfl)) ?_
  refine OL.cons trivial (part_stk (k := 0) (u := mkP b up down A c l) rfl rfl rfl rfl) ?_
  rintro _ _ rfl
  refine OL.nil ?_
  refine PW.keep (T' := [(8, _)]) ⟨rfl, trivial⟩ ?_
  refine PW.ret ?_
  change (Exit.ret = Exit.normal ∨ Exit.ret = Exit.ret) ∧ ∃ a v, Go.SL.look _ _ = some (.pointer (some a)) ∧ ReadsAs _ _ _ _ _ ∧ _
  exact ⟨.inr rfl, _, _, rfl, part_read (r := r8) (u := mkP b up down A c l) (E := 36) (tot := 102) (List.mem_flatten.2 ⟨_, .head _, List.mem_singleton.2 rfl⟩), _, Sub.drop (Sub.drop (Sub.drop (Sub.refl _))), rfl, rfl⟩
theorem mkP_rd {w0 : World} {S : SS} {b : UInt8} {up down : Vtx} {r n : Nat} {l : List ByteArray} (h : [(r, AO.cells (strs l) 9 n)] ∈ S) (hu : okV up) (hd : okV down) (hl : l.length ≤ 100) : PartRd w0 S (mkP b up down (some ⟨r, 0, none⟩) l.length l) :=
  ⟨Rd.own (E := 9) (tot := n) (List.mem_flatten.2 ⟨_, h, List.mem_singleton.2 rfl⟩), Rd.nil, ⟨(show (-9223372036854775808 : Int) ≤ 0 ∧ (0 : Int) ≤ 9223372036854775807 by decide), (show (-9223372036854775808 : Int) ≤ 0 ∧ (0 : Int) ≤ 4611686018427387904 by decide), Nat.le_trans hl (by decide), Nat.zero_le _, Nat.le_refl _, fun _ => rfl, hu, hd, fun v hv => by cases hv⟩, hl, Nat.zero_le _⟩
theorem vtx_stk {w0 : World} {S : SS} {P : Program} {n r k : Nat} {T : TT} {x v : PV} {u : Vtx} {z : List Value} (hk : S[k]? = some [(r, .cells z 32 33)]) (hx : x.val T = some (.pointer (some ⟨r, 0, none⟩))) (hv : v.val T = some (vtxV u)) (hz : z.length = 33) :
    OW P w0 n (.st 33 x v) T S (fun _ S' => S' = S.set k (vseg r u)) := by
  refine (OW.st (k := k) (c := z) (u := vtxV u) hx hv hk ((List.size_toArray).trans (vtxL_len u)) (by omega) (vtxL_one u)).mono ?_
  rintro _ _ rfl
  rw [vtx_box, setAll (by rw [vtxL_len, hz])]
def va : Vtx := (hb1 1, 0)
def vb : Vtx := (hb1 1, 1)
theorem okVa : okV va := by unfold okV va; decide
theorem okVb : okV vb := by unfold okV vb; decide
def k1 : PartP := (mkP 1 rootV endV none 0 [str1 97, str1 98]).pl
def kx : PartP := (mkP 2 va vb none 0 [str1 120]).pl
def ky : PartP := (mkP 3 va vb none 0 [str1 121]).pl
theorem okRoot : okV rootV := by unfold okV; decide
theorem okEnd : okV endV := by unfold okV; decide
theorem GG.n100 {w0 : World} {X : SS} {m : GrM} {ps : List PartP} (h : GG w0 X m ps) {p : PartP} (hn : newC ps p = true) : addE m.gr p = 0 ∧ came ps p = p :: ps := by
  have hnew := newC_new h.sq ⟨_, h.inv⟩ hn
  exact ⟨(addE_zero h.inv h.sq).2 hnew, came_new hnew⟩
/-- a part that can come, of rows that lie ahead of the graph -/
theorem addF_fc {w0 : World} {S : SS} {s : Seg} {m : GrM} {ps : List PartP} {p : PartM} (h : GG w0 [] m ps) (hp : PartRd w0 (s :: S) p) (hn : newC ps p.pl = true) (hc : (allV ps).length + ps.length + p.lines.length + 1 ≤ 1000000) (hlim : m.lim + addL p ≤ 500000000000) :
    FC Try.prog w0 16 [m.ptr, partV p] (s :: (GS m ++ S)) (fun v S' => ∃ m', v = .int .i64 0 ∧ S' = GS m' ++ (s :: S) ∧ GG w0 [] m' (p.pl :: ps) ∧ m'.lim ≤ m.lim + addL p ∧ m'.r = m.r) := by
  refine (FC.subS gs_a (add2_fc (S := s :: S) h over_nil hp.rng hp.rdL hp.rdG hc hlim)).mono ?_
  rintro _ _ ⟨m1, rfl, rfl, hg1, hl1, hr1, _⟩
  obtain ⟨hz, hcm⟩ := h.n100 hn
  rw [hcm] at hg1
  exact ⟨m1, by rw [hz], rfl, hg1, hl1, hr1⟩
theorem base_fc {w0 : World} {S : SS} : FC Try.prog w0 41 [] S (fun v S' => ∃ m, v = .tuple #[m.ptr, vtxV va, vtxV vb] ∧ S' = GS m ++ S ∧ GG w0 [] m [k1] ∧ m.lim ≤ 100) := by
  refine FC.ofTCC Try.known41 (by simp) ?_
  unfold Try.pc41
  simp only [argT]
  refine PW.seqOps ?_
  refine OL.dp rfl ?_
  refine OL.cons trivial OW.al ?_
  rintro _ _ ⟨r1, rfl, rfl⟩
  refine OL.cons trivial OW.al ?_
  rintro _ _ ⟨r2, rfl, rfl⟩
  refine OL.nil ?_
  refine PW.keep (T' := [(1, _), (2, _)]) ⟨rfl, rfl, trivial⟩ ?_
  refine PW.seqOps ?_
  refine OL.call trivial rfl (new_fc (X := [])) ?_
  rintro _ _ ⟨m0, rfl, rfl, hm0, hg0, hl0⟩
  have hgg : GG w0 [] m0 [] := ⟨hm0, by rw [hg0]; exact GP.Inv.nil, Sq.nil, by simp [allV], by omega⟩
  refine OL.dp rfl ?_
  refine OL.nil ?_
  refine PW.keep (T' := [(1, _), (2, _), (3, _)]) ⟨rfl, rfl, rfl, trivial⟩ ?_
  refine PW.seqOps ?_
  refine OL.dp rfl ?_
  refine OL.det trivial (Yields.build (cs := vtxL rootV) rfl) ?_
  refine OL.det trivial (Yields.build (cs := vtxL endV) rfl) ?_
  refine OL.cons trivial (OW.bsl (cs := strs [str1 97, str1 98]) rfl) ?_
  rintro _ _ ⟨r8, rfl, rfl⟩
  refine OL.call trivial rfl (part_fc (b := 1) (up := rootV) (down := endV) (l := [str1 97, str1 98])) ?_
  rintro _ Sx ⟨rfl, hSx⟩
  rw [hSx]
  clear hSx
  have hpr : ∀ Z, PartRd w0 ([(r8, .cells (strs [str1 97, str1 98]) 9 2)] :: Z) (mkP 1 rootV endV (some ⟨r8, 0, none⟩) 2 [str1 97, str1 98]) := fun Z => mkP_rd (n := 2) (r := r8) (l := [str1 97, str1 98]) (.head _) okRoot okEnd (show 2 ≤ 100 by decide)
  refine OL.call trivial rfl (addF_fc hgg (hpr _) (show newC [] k1 = true by decide +kernel) (show 3 ≤ 1000000 by decide) (by rw [hl0]; exact (show 0 + 5 ≤ 500000000000 by decide))) ?_
  rintro _ _ ⟨m1, rfl, rfl, hg1, hl1, hr1⟩
  have hl1 : m1.lim ≤ m0.lim + 5 := hl1
  refine OL.nil ?_
  refine PW.keep (T' := [(1, _), (2, _), (3, _)]) ⟨rfl, rfl, rfl, trivial⟩ ?_
  refine PW.seqOps ?_
  refine OL.dp rfl ?_
  refine OL.det trivial (Yields.bldA (cs := bytesC (hb1 1).1) rfl) ?_
  refine OL.det trivial (Yields.build (cs := vtxL va) rfl) ?_
  refine OL.det trivial (Yields.bldA (cs := bytesC (hb1 1).1) rfl) ?_
  refine OL.det trivial (Yields.build (cs := vtxL vb) rfl) ?_
  refine OL.dp rfl ?_
  refine OL.cons trivial (vtx_stk (k := 6) (u := va) rfl rfl rfl rfl) ?_
  rintro _ _ rfl
  refine OL.cons trivial (vtx_stk (k := 5) (u := vb) rfl rfl rfl rfl) ?_
  rintro _ _ rfl
  refine OL.nil ?_
  refine PW.keep (T' := [(0, _), (1, _), (2, _)]) ⟨rfl, rfl, rfl, trivial⟩ ?_
  refine PW.ret ?_
  change (Exit.ret = Exit.normal ∨ Exit.ret = Exit.ret) ∧ ∃ x a v b u, Go.SL.look _ _ = some x ∧ Go.SL.look _ _ = some (.pointer (some a)) ∧ ReadsAs _ _ _ _ _ ∧ Go.SL.look _ _ = some (.pointer (some b)) ∧ ReadsAs _ _ _ _ _ ∧ _
  exact ⟨.inr rfl, _, _, _, _, _, rfl, rfl, vtx_read (r := r1) (v := va) (E := 32) (tot := 33) (List.mem_flatten.2 ⟨_, .tail _ (.tail _ (.tail _ (.tail _ (.tail _ (.tail _ (.head _)))))), List.mem_singleton.2 rfl⟩), rfl, vtx_read (r := r2) (v := vb) (E := 32) (tot := 33) (List.mem_flatten.2 ⟨_, .tail _ (.tail _ (.tail _ (.tail _ (.tail _ (.head _))))), List.mem_singleton.2 rfl⟩), _, Sub.sel [0, 1, 2, 3] 7 (by decide) (GS m1 ++ (_ :: _ :: _ :: S)), m1, by rw [ptr_eq hr1], rfl, hg1, by omega⟩
theorem items_text {its : List ItemM} {ps : List PartP} {T : List ByteArray} (hm : its.map ItemM.pl = itemsP ps) (hc : ((allV ps).all fun a => closedB (allE ps) a) = true) (ht : textI (itemsF (befC ps) (live (linesP ps))) = T) : textI (pli its) = T := by
  unfold pli
  rw [hm, items_comp hc, ht]
theorem items_blocks {its : List ItemM} {ps : List PartP} {B : List Bool} (hm : its.map ItemM.pl = itemsP ps) (hc : ((allV ps).all fun a => closedB (allE ps) a) = true) (ht : (itemsF (befC ps) (live (linesP ps))).map (·.block) = B) : its.map (·.block) = B := by
  have : its.map (·.block) = (its.map ItemM.pl).map (·.block) := by rw [List.map_map]; rfl
  rw [this, hm, items_comp hc, ht]
theorem any_map {its : List ItemM} : its.any (·.block) = (its.map (·.block)).any id := by rw [List.any_map]; rfl
def workT : List ByteArray := [str1 97, beginB, str1 120, middleB, str1 121, closeB, str1 98]
theorem new_kx : newC [k1] kx = true := by decide +kernel
theorem new_ky : newC [kx, k1] ky = true := by decide +kernel
theorem closed3 : ((allV [ky, kx, k1]).all fun a => closedB (allE [ky, kx, k1]) a) = true := by decide +kernel
theorem text3 : textI (itemsF (befC [ky, kx, k1]) (live (linesP [ky, kx, k1]))) = workT := by decide +kernel
theorem blocks3 : (itemsF (befC [ky, kx, k1]) (live (linesP [ky, kx, k1]))).map (·.block) = [false, true, false] := by decide +kernel
theorem works_fc {w0 : World} {S : SS} : FC Try.prog w0 31 [] S (fun v S' => v = .bool true ∧ S' = S) := by
  refine FC.ofD Try.known31 (by simp) ?_
  unfold Try.pc31
  simp only [argT]
  refine PW.seqOps ?_
  refine OL.dp rfl ?_
  refine OL.nil ?_
  refine PW.keep (T' := []) trivial ?_
  refine PW.seqOps ?_
  refine OL.call trivial rfl (base_fc) ?_
  rintro _ _ ⟨m, rfl, rfl, hg, hl⟩
  refine OL.dp rfl ?_
  refine OL.dp rfl ?_
  refine OL.dp rfl ?_
  refine OL.dp rfl ?_
  refine OL.cons trivial OW.al ?_
  rintro _ _ ⟨r2, rfl, rfl⟩
  refine OL.cons trivial OW.al ?_
  rintro _ _ ⟨r3, rfl, rfl⟩
  refine OL.dp rfl ?_
  refine OL.cons trivial (vtx_stk (k := 1) (u := va) rfl rfl rfl rfl) ?_
  rintro _ _ rfl
  refine OL.cons trivial (vtx_stk (k := 0) (u := vb) rfl rfl rfl rfl) ?_
  rintro _ _ rfl
  refine OL.subS (S' := GS m ++ (vseg r3 vb :: vseg r2 va :: S)) (Sub.sel [2, 3, 4, 5, 0, 1] 6 (by decide) (vseg r3 vb :: vseg r2 va :: (GS m ++ S))) ?_
  refine OL.nil ?_
  refine PW.keep (T' := [(1, _), (2, _), (3, _)]) ⟨rfl, rfl, rfl, trivial⟩ ?_
  refine PW.seqOps ?_
  refine OL.dp rfl ?_
  refine OL.det trivial (Yields.ldA rfl (vtxL_len _) (all_at (List.mem_flatten.2 ⟨_, .tail _ (.tail _ (.tail _ (.tail _ (.tail _ (.head _))))), List.mem_singleton.2 rfl⟩))) ?_
  refine OL.det trivial (Yields.ldA rfl (vtxL_len _) (all_at (List.mem_flatten.2 ⟨_, .tail _ (.tail _ (.tail _ (.tail _ (.head _)))), List.mem_singleton.2 rfl⟩))) ?_
  refine OL.cons trivial (OW.bsl (cs := strs [str1 120]) rfl) ?_
  rintro _ _ ⟨r15, rfl, rfl⟩
  refine OL.call trivial rfl (part_fc (b := 2) (up := va) (down := vb) (l := [str1 120])) ?_
  rintro _ Sx ⟨rfl, hSx⟩
  rw [hSx]
  clear hSx
  have hpx : ∀ Z, PartRd w0 ([(r15, .cells (strs [str1 120]) 9 1)] :: Z) (mkP 2 va vb (some ⟨r15, 0, none⟩) 1 [str1 120]) := fun Z => mkP_rd (n := 1) (r := r15) (l := [str1 120]) (.head _) okVa okVb (show 1 ≤ 100 by decide)
  refine OL.call trivial rfl (addF_fc hg (hpx _) new_kx (show 5 ≤ 1000000 by decide) (Nat.le_trans (Nat.add_le_add_right hl 4) (by decide))) ?_
  rintro _ _ ⟨m1, rfl, rfl, hg1, hl1, hr1⟩
  have hl1 : m1.lim ≤ m.lim + 4 := hl1
  change GG w0 [] m1 [kx, k1] at hg1
  refine OL.dp rfl ?_
  refine OL.nil ?_
  refine PW.keep (T' := [(1, _), (2, _), (3, _), (4, _)]) ⟨rfl, rfl, rfl, rfl, trivial⟩ ?_
  refine PW.seqOps ?_
  refine OL.dp rfl ?_
  refine OL.det trivial (Yields.ldA rfl (vtxL_len _) (all_at (List.mem_flatten.2 ⟨_, .tail _ (.tail _ (.tail _ (.tail _ (.tail _ (.tail _ (.head _)))))), List.mem_singleton.2 rfl⟩))) ?_
  refine OL.det trivial (Yields.ldA rfl (vtxL_len _) (all_at (List.mem_flatten.2 ⟨_, .tail _ (.tail _ (.tail _ (.tail _ (.tail _ (.head _))))), List.mem_singleton.2 rfl⟩))) ?_
  refine OL.cons trivial (OW.bsl (cs := strs [str1 121]) rfl) ?_
  rintro _ _ ⟨r21, rfl, rfl⟩
  refine OL.call trivial rfl (part_fc (b := 3) (up := va) (down := vb) (l := [str1 121])) ?_
  rintro _ Sx ⟨rfl, hSx⟩
  rw [hSx]
  clear hSx
  have hpy : ∀ Z, PartRd w0 ([(r21, .cells (strs [str1 121]) 9 1)] :: Z) (mkP 3 va vb (some ⟨r21, 0, none⟩) 1 [str1 121]) := fun Z => mkP_rd (n := 1) (r := r21) (l := [str1 121]) (.head _) okVa okVb (show 1 ≤ 100 by decide)
  refine OL.call trivial rfl (by rw [← ptr_eq hr1]; exact addF_fc hg1 (hpy _) new_ky (show 7 ≤ 1000000 by decide) (Nat.le_trans (Nat.add_le_add_right (Nat.le_trans hl1 (Nat.add_le_add_right hl 4)) 4) (by decide))) ?_
  rintro _ _ ⟨m2, rfl, rfl, hg2, hl2, hr2⟩
  change GG w0 [] m2 [ky, kx, k1] at hg2
  refine OL.dp rfl ?_
  refine OL.nil ?_
  refine PW.keep (T' := [(1, _), (4, _), (5, _)]) ⟨rfl, rfl, rfl, trivial⟩ ?_
  refine PW.seqOps ?_
  refine OL.dp rfl ?_
  refine OL.call trivial rfl (by rw [← ptr_eq (hr2.trans hr1)]; exact items_fc hg2 over_nil (by decide +kernel)) ?_
  rintro v25 _ ⟨its, segi, junk, rfl, hmap, hsi, hio, hitn⟩
  have htx := items_text hmap closed3 text3
  have hbl := items_blocks hmap closed3 blocks3
  obtain ⟨Ai, ci, rfl, hni, hci, hri⟩ := slv_rdL (w0 := w0) hsi
  have hlen : its.length = 3 := by have := congrArg List.length hbl; rw [List.length_map] at this; exact this
  obtain ⟨ai, rfl⟩ := itemS_some (hri []) (by omega)
  have hb1 : (its[1]'(by omega)).block = true := by
    have := List.getElem_map (·.block) (l := its) (i := 1) (h := by rw [hbl]; decide)
    rw [← this]
    simp only [hbl]
    rfl
  have hany : its.any (·.block) = true := by rw [any_map, hbl]; rfl
  refine OL.dp rfl ?_
  refine OL.nil ?_
  refine PW.keep (T' := [(4, _), (5, _), (6, _)]) ⟨rfl, rfl, rfl, trivial⟩ ?_
  refine PW.seqOps ?_
  refine OL.dp rfl ?_
  refine OL.det trivial (Yields.to (v' := .bool true) (Yields.pure rfl) (by rfl)) ?_
  refine OL.dp rfl ?_
  refine OL.det rfl (Yields.pure rfl) ?_
  refine OL.det rfl (Yields.to (v' := .bool true) (Yields.pure rfl) (by rfl)) ?_
  refine OL.dp rfl ?_
  refine OL.dp rfl ?_
  refine OL.det rfl (Yields.pure rfl) ?_
  refine OL.det rfl (Yields.pure rfl) ?_
  refine OL.det rfl (Yields.to (v' := .bool true) (Yields.pure rfl) (by rw [hlen]; rfl)) ?_
  refine OL.dp rfl ?_
  refine OL.dp rfl ?_
  refine OL.det rfl (Yields.pure rfl) ?_
  refine OL.det rfl (Yields.ixN (j := 1) rfl rfl rfl (by omega)) ?_
  refine OL.det rfl (Yields.pure rfl) ?_
  refine OL.det rfl (Yields.to (v' := .bool true) (Yields.ld rfl (item_at (k := 1) (hri _) (by omega) 1 (.bool (its[1]'(by omega)).block) rfl)) (by rw [hb1])) ?_
  refine OL.dp rfl ?_
  refine OL.dp rfl ?_
  refine OL.det rfl (Yields.pure rfl) ?_
  refine OL.call rfl rfl (conflict_fc (hri _) (by omega)) ?_
  rintro _ Sx ⟨rfl, hSx⟩
  rw [hSx]
  clear hSx
  rw [hany]
  refine OL.dp rfl ?_
  refine OL.dp rfl ?_
  refine OL.det rfl (Yields.pure rfl) ?_
  refine OL.call rfl rfl (textI_fc (hri _) (fun x hx => (hio x hx).rd (by simp)) (by omega)) ?_
  rintro v49 _ ⟨segt, rfl, hst, _⟩
  rw [htx] at hst
  obtain ⟨At, ct, rfl, hnt, hct, hrt⟩ := slv_rdL (w0 := w0) hst
  refine OL.cons rfl (OW.bsl (cs := strs workT) rfl) ?_
  rintro _ _ ⟨r50, rfl, rfl⟩
  refine OL.call rfl rfl (sameS_fc (a := workT) (b := workT) (hrt _).cons (Rd.own (E := 9) (tot := 7) (List.mem_flatten.2 ⟨_, .head _, List.mem_singleton.2 rfl⟩)) (show 7 ≤ 1000000000000 by decide) (show 7 ≤ 1000000000000 by decide)) ?_
  rintro _ Sx ⟨rfl, hSx⟩
  rw [hSx]
  clear hSx
  rw [decide_eq_true (rfl : workT = workT)]
  refine OL.dp rfl ?_
  refine OL.dp rfl ?_
  refine OL.nil ?_
  refine PW.keep (T' := [(0, _)]) ⟨rfl, trivial⟩ ?_
  refine PW.ret ?_
  change (Exit.ret = Exit.normal ∨ Exit.ret = Exit.ret) ∧ ∃ v, resV _ _ = some v ∧ _
  exact ⟨.inr rfl, _, rfl, _, Sub.drop (Sub.drop (Sub.drop (Sub.drop (Sub.drop (Sub.drop (Sub.drop (Sub.drop (Sub.drop (Sub.drop (Sub.drop (Sub.drop (Sub.refl _)))))))))))), rfl, rfl⟩
end Go.Proofs.Gr
