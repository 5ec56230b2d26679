/- Plain facts of chapter 3: orders turned round, and bales with other numbers. -/
import Derived.Test.YtmcckngodaeojaaPa
namespace Grade03
def btwQ (a b : List Int) (x y : Nat) : Prop := bef a x y ∧ bef b x y
theorem count_perm {n : Nat} {f g : List Int → List Int} (hf : ∀ l, IsO l ∧ l.length = n → IsO (f l) ∧ (f l).length = n) (hg : ∀ l, IsO l ∧ l.length = n → IsO (g l) ∧ (g l).length = n) (hfg : ∀ l, IsO l ∧ l.length = n → f (g l) = l) (hgf : ∀ l, IsO l ∧ l.length = n → g (f l) = l) {p q : List Int → Bool} (hpq : ∀ l, IsO l ∧ l.length = n → p (f l) = q l) : (allO n n []).countP p = (allO n n []).countP q := by
  have hnd : ((allO n n []).map f).Nodup := by
    have h1 := allO_nodup (n := n) n []
    rw [List.nodup_iff_pairwise_ne] at h1 ⊢
    rw [List.pairwise_map]
    refine h1.imp_of_mem ?_
    intro a b ha hb hne e
    apply hne
    rw [← hgf a (allO_mem.1 ha), ← hgf b (allO_mem.1 hb), e]
  have hp : ((allO n n []).map f).Perm (allO n n []) := by
    refine (List.perm_ext_iff_of_nodup hnd (allO_nodup n [])).2 fun l => ?_
    rw [List.mem_map]
    constructor
    · rintro ⟨x, hx, rfl⟩
      exact allO_mem.2 (hf x (allO_mem.1 hx))
    · intro hl
      exact ⟨g l, allO_mem.2 (hg l (allO_mem.1 hl)), hfg l (allO_mem.1 hl)⟩
  rw [← hp.countP_eq p, List.countP_map]
  exact List.countP_congr fun l hl => by rw [Function.comp, hpq l (allO_mem.1 hl)]
theorem lin_rev {n : Nat} {a b l : List Int} (ha : IsO a) (hb : IsO b) (hl : IsO l) (hla : a.length = n) (hlb : b.length = n) (hll : l.length = n) : Lin n (btwQ a.reverse b.reverse) l.reverse ↔ Lin n (btwQ a b) l := by
  have key : ∀ x y, x < n → y < n → (btwQ a.reverse b.reverse x y ↔ btwQ a b y x) := fun x y hx hy => by
    unfold btwQ
    rw [rev_bef ha (by omega) (by omega), rev_bef hb (by omega) (by omega)]
  constructor
  · intro h x hx y hy hr
    exact (rev_bef hl (by omega) (by omega)).1 (h y hy x hx ((key y x hy hx).2 hr))
  · intro h x hx y hy hr
    exact (rev_bef hl (by omega) (by omega)).2 (h y hy x hx ((key x y hx hy).1 hr))
/-- each bale gets the number of its place -/
def rlb (b l : List Int) : List Int := l.map fun x => (pos b x : Int)
theorem rlb_len (b l : List Int) : (rlb b l).length = l.length := by simp [rlb]
theorem rlb_get {b l : List Int} {i : Nat} (hi : i < l.length) : (rlb b l).getD i 0 = (pos b (l.getD i 0) : Int) := by simp [rlb, List.getD, hi]
theorem rlb_ord {b l : List Int} (hb : IsO b) (h : IsO l) (hl : l.length = b.length) : IsO (rlb b l) := by
  refine ⟨fun i hi => ?_, fun i k hi hk e => ?_⟩
  · rw [rlb_len] at hi ⊢
    have h1 := h.lo i hi
    rw [rlb_get hi]
    have h2 := (hb.get_pos (l.getD i 0) h1.1 (by omega)).1
    omega
  · rw [rlb_len] at hi hk
    rw [rlb_get hi, rlb_get hk] at e
    have h1 := h.lo i hi
    have h2 := h.lo k hk
    exact h.inj i k hi hk (hb.pos_inj ⟨h1.1, by omega⟩ ⟨h2.1, by omega⟩ (by omega))
theorem rlb_pos {b l : List Int} (hb : IsO b) (h : IsO l) (hl : l.length = b.length) {x : Nat} (hx : x < l.length) : pos (rlb b l) (pos b (x : Int) : Int) = pos l (x : Int) := by
  obtain ⟨h1, h2⟩ := h.get_pos (x : Int) (by omega) (by omega)
  have h3 := (rlb_ord hb h hl).pos_get (pos l (x : Int)) (by rw [rlb_len]; exact h1)
  rw [rlb_get h1, h2] at h3
  exact h3
theorem rlb_bef {b l : List Int} (hb : IsO b) (h : IsO l) (hl : l.length = b.length) {x y : Nat} (hx : x < l.length) (hy : y < l.length) : bef (rlb b l) (pos b (x : Int)) (pos b (y : Int)) ↔ bef l x y := by
  unfold bef
  rw [rlb_pos hb h hl hx, rlb_pos hb h hl hy]
/-- back -/
def ulb (b l : List Int) : List Int := l.map fun z => b.getD z.toNat 0
theorem ulb_ord {b l : List Int} (hb : IsO b) (h : IsO l) (hl : l.length = b.length) : IsO (ulb b l) ∧ (ulb b l).length = l.length := by
  have hlen : (ulb b l).length = l.length := by simp [ulb]
  have hget : ∀ i, i < l.length → (ulb b l).getD i 0 = b.getD (l.getD i 0).toNat 0 := fun i hi => by simp [ulb, List.getD, hi]
  refine ⟨⟨fun i hi => ?_, fun i k hi hk e => ?_⟩, hlen⟩
  · rw [hlen] at hi ⊢
    have h1 := h.lo i hi
    rw [hget i hi]
    have := hb.lo (l.getD i 0).toNat (by omega)
    omega
  · rw [hlen] at hi hk
    rw [hget i hi, hget k hk] at e
    have h1 := h.lo i hi
    have h2 := h.lo k hk
    have := hb.inj _ _ (by omega) (by omega) e
    exact h.inj i k hi hk (by omega)
theorem rlb_ulb {b l : List Int} (hb : IsO b) (h : IsO l) (hl : l.length = b.length) : rlb b (ulb b l) = l := by
  refine ext_getD (by simp [rlb, ulb]) fun i hi => ?_
  simp only [rlb, ulb, List.length_map] at hi
  have h1 := h.lo i hi
  rw [rlb_get (by simp [ulb]; exact hi)]
  have hget : (ulb b l).getD i 0 = b.getD (l.getD i 0).toNat 0 := by simp [ulb, List.getD, hi]
  rw [hget, hb.pos_get _ (by omega)]
  omega
theorem ulb_rlb {b l : List Int} (hb : IsO b) (h : IsO l) (hl : l.length = b.length) : ulb b (rlb b l) = l := by
  refine ext_getD (by simp [rlb, ulb]) fun i hi => ?_
  simp only [rlb, ulb, List.length_map] at hi
  have h1 := h.lo i hi
  have hget : (ulb b (rlb b l)).getD i 0 = b.getD ((rlb b l).getD i 0).toNat 0 := by simp [ulb, List.getD, rlb, hi]
  rw [hget, rlb_get hi, Int.toNat_natCast]
  exact (hb.get_pos (l.getD i 0) h1.1 (by omega)).2
theorem lin_rlb {n : Nat} {a b l : List Int} (ha : IsO a) (hb : IsO b) (hl : IsO l) (hla : a.length = n) (hlb : b.length = n) (hll : l.length = n) : Lin n (btwQ (rlb b a) (rlb b b)) (rlb b l) ↔ Lin n (btwQ a b) l := by
  have key : ∀ x y, x < n → y < n → (btwQ (rlb b a) (rlb b b) (pos b (x : Int)) (pos b (y : Int)) ↔ btwQ a b x y) := fun x y hx hy => by
    unfold btwQ
    rw [rlb_bef hb ha (by omega) (by omega) (by omega), rlb_bef hb hb rfl (by omega) (by omega)]
  constructor
  · intro h x hx y hy hr
    have px := (hb.get_pos (x : Int) (by omega) (by omega)).1
    have py := (hb.get_pos (y : Int) (by omega) (by omega)).1
    exact (rlb_bef hb hl (by omega) (by omega) (by omega)).1 (h _ (by omega) _ (by omega) ((key x y hx hy).2 hr))
  · intro h x hx y hy hr
    have bx := hb.lo x (by omega)
    have bY := hb.lo y (by omega)
    obtain ⟨u, hu⟩ : ∃ u : Nat, b.getD x 0 = (u : Int) := ⟨(b.getD x 0).toNat, by omega⟩
    obtain ⟨v, hv⟩ : ∃ v : Nat, b.getD y 0 = (v : Int) := ⟨(b.getD y 0).toNat, by omega⟩
    have e1 := hb.pos_get x (by omega)
    have e2 := hb.pos_get y (by omega)
    rw [hu] at e1 bx
    rw [hv] at e2 bY
    rw [← e1, ← e2] at hr ⊢
    exact (rlb_bef hb hl (by omega) (by omega) (by omega)).2 (h u (by omega) v (by omega) ((key u v (by omega) (by omega)).1 hr))
theorem dist_rlb {n : Nat} {a b : List Int} (ha : IsO a) (hb : IsO b) (hla : a.length = n) (hlb : b.length = n) : dist (rlb b a) (rlb b b) = dist a b := by
  have hs : IsO ((List.range n).map fun x : Nat => (pos b (x : Int) : Int)) := by
    have hg : ∀ i, i < n → ((List.range n).map fun x : Nat => (pos b (x : Int) : Int)).getD i 0 = (pos b (i : Int) : Int) := fun i hi => by simp [List.getD, hi]
    refine ⟨fun i hi => ?_, fun i k hi hk e => ?_⟩
    · simp only [List.length_map, List.length_range] at hi ⊢
      rw [hg i hi]
      have := (hb.get_pos (i : Int) (by omega) (by omega)).1
      omega
    · simp only [List.length_map, List.length_range] at hi hk
      rw [hg i hi, hg k hk] at e
      have := hb.pos_inj (x := (i : Int)) (y := (k : Int)) ⟨by omega, by omega⟩ ⟨by omega, by omega⟩ (by omega)
      omega
  have hlen : ((List.range n).map fun x : Nat => (pos b (x : Int) : Int)).length = n := by simp
  have hg : ∀ i, i < n → ((List.range n).map fun x : Nat => (pos b (x : Int) : Int)).getD i 0 = (pos b (i : Int) : Int) := fun i hi => by simp [List.getD, hi]
  unfold dist
  rw [rlb_len, hla]
  have e1 : ∀ f : Nat → Int, sm f n = sm (fun x => f (pos b (x : Int))) n := fun f => by
    have h1 := sm_order hs (fun z => f z.toNat)
    rw [hlen] at h1
    have h2 : sm (fun x : Nat => f ((x : Int).toNat)) n = sm f n := sm_congr _ fun x _ => by rw [Int.toNat_natCast]
    rw [← h2, ← h1]
    refine sm_congr _ fun i hi => ?_
    rw [hg i hi, Int.toNat_natCast]
  rw [e1]
  refine sm_congr _ fun x hx => ?_
  rw [e1]
  refine sm_congr _ fun y hy => bI_congr ?_
  rw [rlb_bef hb ha (by omega) (by omega) (by omega), rlb_bef hb hb rfl (by omega) (by omega)]
theorem rlb_self {b : List Int} (hb : IsO b) : rlb b b = (List.range b.length).map fun x : Nat => (x : Int) := by
  refine ext_getD (by simp [rlb]) fun i hi => ?_
  rw [rlb_len] at hi
  rw [rlb_get hi, hb.pos_get i hi]
  simp [List.getD, hi]
end Grade03
