/- Walks of chapter 9: what beetles reach. -/
import Derived.Test.YtbhjphcomppjgaaDoorWh
import Derived.Deep.RegionHeld3
namespace Go.Proofs.YtbhjphcomppjgaaDoor
open Go.RowKit Beetle09

/-- The first so many of a list of the call's own. -/
theorem OwnL.pre {w : World} {e B : Nat} {a : Option Addr} {n c : Nat} {l : List Int} (h : OwnL w e B a n c l) (k : Nat) (hk : k ≤ n) : OwnL w e B a k c (l.take k) := by
  obtain ⟨h1, h2⟩ := h
  have hl : l.length = n := by simpa using h1
  refine ⟨by simp; omega, ?_⟩
  rcases h2 with ⟨hv, hn⟩ | ⟨g, cap, cur, hv, hg, hh, hnc, hcm, hcs, ht⟩
  · simp only [Value.slice.injEq] at hv
    obtain ⟨rfl, rfl, rfl⟩ := hv
    obtain rfl : k = 0 := by omega
    exact Or.inl ⟨rfl, rfl⟩
  · simp only [Value.slice.injEq] at hv
    obtain ⟨rfl, _, rfl⟩ := hv
    refine Or.inr ⟨g, c, cur, rfl, hg, hh, by omega, hcm, hcs, ?_⟩
    rw [List.map_take, ← ht, List.take_take]
    congr 1
    omega
set_option maxHeartbeats 8000000 in
set_option maxRecDepth 100000 in
theorem spread_any (g R C s z : Nat) (w : World) (hT : Tab w) (hs : Sd R C) (hF : Flr w g R C (nearN C (R * C))) (hs2 : s < 2 ^ (R * C)) (hz : z < 2 ^ (R * C)) :
    Calls Tryd.prog 54 #[.pointer (some ⟨g, 0, none⟩), .agg #[.int .u32 (s : Int), .int .u32 (z : Int)]] w fun e w' => e = .returned (.int .u32 ((fin R C z s : Nat) : Int)) ∧ Below w.heap.size w w' := by
  have n25 := hs.n25
  have h25 := lt25 hs2 n25
  have hz32 : z < 4294967296 := Nat.lt_of_lt_of_le (lt25 hz n25) (by decide)
  have HSP := Lib.hid (SprS.start (z := z) hs hs2)
  have HSD := Lib.hid hs
  have hal : Below w.heap.size w (w.alloc (.cells #[.int .u32 (s : Int), .int .u32 (z : Int)] 79)) := (Below.refl _ _).alloc (Nat.le_refl _) _
  have hT1 := hT.to hal
  have hF1 : Flr (w.alloc (.cells #[.int .u32 (s : Int), .int .u32 (z : Int)] 79)) g R C (nearN C (R * C)) := ArrV.alloc hF _
  have HST := Lib.hid (ArrV.new (f := VV) w #[.int .u32 (s : Int), .int .u32 (z : Int)] 79 [.int .u32 (s : Int), .int .u32 (z : Int)] _ rfl rfl)
  have HC := Lib.hid (list_of s _ hT1 h25)
  have HT := Lib.hid hT1
  have HF := Lib.hid hF1
  have hP25 := pcN_le 25 s
  obtain ⟨P, hP⟩ : ∃ P, pcN 25 s = P := ⟨_, rfl⟩
  have HP := Lib.hid hP
  rw [hP] at HC hP25
  have hgw : g < w.heap.size := hF.lt
  clear hs hs2 hz hT hF hT1 hF1 h25 hP
  go_enter Tryd.func54, Tryd.ntmps54
  go_wp2_with fail
  refine HC.out.mono ?_
  rintro e w1 ⟨a, c, rfl, hO, hb1⟩
  have hb0 := hal.trans (hb1.mono hal.size)
  have hk1 := hal.size
  have HO : Hid (OwnL w1 3 (w.heap.size + 1) a P c (li (els 25 s))) := Lib.hid (by simpa using hO)
  have HT1 := Lib.hid (HT.out.to hb1)
  have HF1 : Hid (Flr w1 g R C (nearN C (R * C))) := Lib.hid (ArrV.below HF.out hb1)
  have HST1 := Lib.hid (HST.out.below hb1)
  clear hO hb1 hal HC HT HF HST
  go_wp2_with fail
  have hs1 := hb0.size
  have hwl : w.heap.size < w1.heap.size := HST1.out.lt
  go_loopw [5, 6] (fun vr vt wr => ∃ (r n : Nat) (a : Option Addr) (c : Nat) (todo : List Nat), vr = .int .u32 (r : Int) ∧ vt = .slice a n c ∧ n ≤ 75 ∧ Hid (SprS R C z s r todo []) ∧ Hid (OwnL wr 3 (w.heap.size + 1) a n c (li todo)) ∧ Hid (2 * (25 - pcN 25 r) + n ≤ 75) ∧ Below (w.heap.size + 1) w1 wr) (fun vr vt _ => 2 * (25 - pcN 25 (intOf vr).toNat) + lenOf vt)
  case atStart => exact ⟨s, P, a, c, els 25 s, rfl, rfl, by omega, HSP, HO, Lib.hid (by omega), Below.refl _ _⟩
  case round =>
    clear HO
    obtain ⟨r, n, a, c, todo, rfl, rfl, hn75, hI, hO, hm, hb⟩ := hrel
    have hcap := hO.out.isL.cap
    have hle := hO.out.isL.le
    have hlen := hO.out.len
    rw [li_len] at hlen
    have hsz := hb.size
    by_cases h0 : n = 0
    · subst h0
      have hnil : todo = [] := List.eq_nil_of_length_eq_zero hlen
      have HR : Hid (r = fin R C z s) := Lib.hid (by have := hI.out; rw [hnil] at this; exact this.done)
      clear hlen hnil hI hO
      go_wp2_with fail
      go_ret
      exact ⟨ret_i (by rw [HR.out]), hb0.trans (hb.mono (by omega))⟩
    · obtain ⟨m, rfl⟩ : ∃ m, n = m + 1 := ⟨n - 1, by omega⟩
      obtain ⟨todo', x, htd⟩ : ∃ todo' x, todo = todo' ++ [x] := ⟨todo.dropLast, todo.getLast (by intro e; rw [e] at hlen; cases hlen), (List.dropLast_concat_getLast _).symm⟩
      have hl' : todo'.length = m := by rw [htd, List.length_append] at hlen; simpa using hlen
      have hpop := hI.out
      rw [htd] at hpop
      have hxN := hpop.mem x (by simp)
      have hlst := hpop.pop HSD.out hz32
      have hO2 := hO.out.pre m (by omega)
      rw [htd, li_app, List.take_append_of_le_length (by rw [li_len, hl']; exact Nat.le_refl _), List.take_of_length_le (by rw [li_len, hl']; exact Nat.le_refl _)] at hO2
      have hxv : (li todo).getD m 0 = (x : Int) := by rw [li_get, htd]; simp [List.getD, ← hl']
      obtain ⟨gt, rfl⟩ := hO.out.addr (by omega)
      have y1 := (hO.out.gen.cell m 0 (by omega)).1
      rw [hxv] at y1
      have hx25 : x < 25 := by omega
      have hr32 : r < 4294967296 := Nat.lt_of_lt_of_le (lt25 hI.out.lt n25) (by decide)
      have HO2 := Lib.hid hO2
      have q0 : (x : Int) < 25 := by omega
      have hF2 : Flr wr g R C (nearN C (R * C)) := (hb.block g (by omega)).trans HF1.out
      have hST2 : ArrV VV wr w.heap.size 79 [.int .u32 (s : Int), .int .u32 (z : Int)] := (hb.block w.heap.size (by omega)).trans HST1.out
      have m0 := Flr.near hF2 x (by rw [nearN_len]; exact hx25)
      rw [near_at HSD.out hxN] at m0
      have m1 := val hST2 1 rfl
      have hkN := nbS_lt HSD.out hxN
      obtain ⟨k, hk⟩ : ∃ k, nbS R C x = k := ⟨_, rfl⟩
      rw [hk] at m0 hlst hkN
      have hk32 : k < 4294967296 := Nat.lt_of_lt_of_le (lt25 hkN n25) (by decide)
      obtain ⟨p, hp⟩ : ∃ p, k &&& (4294967295 - r) = p := ⟨_, rfl⟩
      have f1 : bits .andNot .u32 (k : Int) (r : Int) = (p : Int) := by rw [u32_andNot_nat k r hk32 hr32, hp]
      have hp32 : p < 4294967296 := by rw [← hp]; exact Nat.lt_of_le_of_lt Nat.and_le_left hk32
      rw [hp] at hlst
      obtain ⟨q, hq⟩ : ∃ q, p &&& (4294967295 - z) = q := ⟨_, rfl⟩
      have f2 : bits .andNot .u32 (p : Int) (z : Int) = (q : Int) := by rw [u32_andNot_nat p z hp32 hz32, hq]
      rw [hq] at hlst
      have hq25 : q < 2 ^ 25 := by rw [← hq, ← hp]; exact Nat.lt_of_le_of_lt Nat.and_le_left (Nat.lt_of_le_of_lt Nat.and_le_left (lt25 hkN n25))
      have HTW := Lib.hid (HT1.out.below hb (by omega))
      have HQ := Lib.hid hq25
      have HL2 := Lib.hid hlst
      have hxN2 := Lib.hid hxN
      clear hxN
      clear hlst hO2 hxv hl' htd hpop hlen hO hI h0 hp hq hk hF2 hST2 hkN hq25
      go_wp2_with fail
      have HC2 : Hid (∀ w', Tab w' → Calls Tryd.prog 60 #[.int .u32 (q : Int)] w' fun e w2 => ∃ a c, e = .returned (.slice a (pcN 25 q) c) ∧ OwnL w2 3 w'.heap.size a (pcN 25 q) c (li (els 25 q)) ∧ Below w'.heap.size w' w2) := Lib.hid fun w' h => list_of q w' h HQ.out
      have HTD := Lib.hid (HTW.out.to (Below.refl wr.heap.size wr).drew)
      go_region_held3 (fun w' => w'.cell? ⟨g, 3 + x, none⟩ = some (.int .u32 (k : Int)) ∧ w'.cell? ⟨w.heap.size, 1, none⟩ = some (.int .u32 (z : Int))) (first | go_keep | exact ⟨(b2.cell (p := ⟨g, 3 + x, none⟩) (by simp; omega)).trans m0, (b2.cell (p := ⟨w.heap.size, 1, none⟩) (by simp; omega)).trans m1⟩)
        ((go_at_call 60; refine (HC2.out _ HTD.out).mono ?_; rintro e w2 ⟨a2, c2, rfl, hO2, b2⟩))
      go_wp2_with fail
      have b3 : Below wr.heap.size wr w2 := (Below.refl wr.heap.size wr).drew.trans b2
      have HO3 := Lib.hid (HO2.out.below b3)
      have HOQ := Lib.hid hO2
      have HSEP : Hid (Sep (some ⟨gt, 0, none⟩) a2) := Lib.hid fun x' y' hx' hy' => by
        obtain rfl := Option.some.inj hx'
        have h1 := (HO2.out.lt _ rfl).2
        have h2 := (hO2.lt _ hy').1
        simp only [World.size_drew] at h2
        simp only [] at h1 ⊢
        omega
      have hbb : Below (w.heap.size + 1) w1 w2 := hb.trans (b3.mono (by omega))
      have hcap2 := hO2.isL.cap
      have hle2 := hO2.isL.le
      have HQL := Lib.hid (els_len 25 q)
      have HM2 : Hid (2 * (25 - pcN 25 r) + m + 1 ≤ 2 * (25 - pcN 25 r) + (m + 1)) := Lib.hid (by omega)
      have hq25' := pcN_le 25 q
      obtain ⟨L, hL⟩ : ∃ L, els 25 q = L := ⟨_, rfl⟩
      obtain ⟨Q, hQ⟩ : ∃ Q, pcN 25 q = Q := ⟨_, rfl⟩
      rw [hL, hQ] at HOQ HQL
      rw [hL] at HL2
      rw [hQ] at hle2 hq25' ⊢
      obtain ⟨W2, rfl⟩ : ∃ W, W = w2 := ⟨_, rfl⟩
      obtain ⟨Wo, rfl⟩ : ∃ W, W = wr := ⟨_, rfl⟩
      clear hO2 b3 b2 hb hL hQ HO2 m0 m1 y1
      go_loopw [42, 5, 6] (fun vi vr vt wr => ∃ (i r2 n2 : Nat) (a : Option Addr) (c : Nat) (todo2 : List Nat), i ≤ Q ∧ vi = .int .i64 (i : Int) ∧ vr = .int .u32 (r2 : Int) ∧ vt = .slice a n2 c ∧ Hid (SprS R C z s r2 todo2 (L.drop i)) ∧ Hid (OwnL wr 3 (w.heap.size + 1) a n2 c (li todo2)) ∧ Hid (OwnL wr 3 Wo.drew.heap.size a2 Q c2 (li L)) ∧ Hid (Sep a a2) ∧ Hid (2 * (25 - pcN 25 r2) + n2 + 1 ≤ 2 * (25 - pcN 25 r) + (m + 1)) ∧ Below (w.heap.size + 1) w1 wr) (fun vi _ _ _ => Q - (intOf vi).toNat)
      case atStart => exact ⟨0, r, m, _, _, todo', by omega, rfl, rfl, rfl, Lib.hid (by rw [List.drop_zero]; exact HL2.out), HO3, HOQ, HSEP, HM2, hbb⟩
      case round =>
        clear HO3 HOQ HSEP HM2 hbb HL2
        obtain ⟨i, r2, n2, a, c, todo2, hi, rfl, rfl, rfl, hI, hO, hOQ, hS, hM, hb⟩ := hrel
        have hn2 : n2 ≤ 75 := by have h1 := hM.out; have h2 := hm.out; omega
        have hsz2 := hb.size
        by_cases hlt : i < Q
        · have q1 : (i : Int) < (Q : Int) := by omega
          obtain ⟨ga, rfl⟩ := hOQ.out.addr (by omega)
          have y1 := (hOQ.out.gen.cell i 0 hlt).1
          rw [li_get] at y1
          have hd : L.drop i = L.getD i 0 :: L.drop (i + 1) := by
            rw [List.drop_eq_getElem_cons (by rw [HQL.out]; exact hlt)]; simp [List.getD, show i < L.length by rw [HQL.out]; exact hlt]
          obtain ⟨v, hv⟩ : ∃ v, L.getD i 0 = v := ⟨_, rfl⟩
          rw [hv] at y1 hd
          have hI2 := hI.out
          rw [hd] at hI2
          obtain ⟨hvN, hvr, _⟩ := hI2.new v List.mem_cons_self
          have hv25 : v < 25 := by omega
          have q2 : (v : Int) < 25 := by omega
          have hr2 := lt25 hI2.lt n25
          have hr232 : r2 < 4294967296 := Nat.lt_of_lt_of_le hr2 (by decide)
          obtain ⟨k2, y, cc, k1, k2', k3, k4, k5, k6, k7, k8⟩ := near_facts HSD.out hvN r2 hr232
          have hF2 : Flr wr g R C (nearN C (R * C)) := (hb.block g (by omega)).trans HF1.out
          have m0 := Flr.near hF2 v (by rw [nearN_len]; exact hv25)
          rw [k1] at m0
          have HC3 := Lib.hid k8
          have HCC := Lib.hid k6
          have HI2 := Lib.hid hI2
          have HOD : Hid (∀ j, OwnL (wr.drewN j) 3 (w.heap.size + 1) a n2 c (li todo2)) := Lib.hid fun j => hO.out.drewN j
          have HQD : Hid (∀ j, OwnL (wr.drewN j) 3 Wo.drew.heap.size (some ⟨ga, 0, none⟩) Q c2 (li L)) := Lib.hid fun j => hOQ.out.drewN j
          have hcap3 := hO.out.isL.cap
          have hle3 := hO.out.isL.le
          clear hd hv hI2 hvr k1 k3 k6 k8 hF2 hI hO hOQ
          by_cases h2 : 2 ≤ cc
          · have c1 : decide ((1 : Int) < (cc : Int)) = true := by simp; omega
            have c2' : 1 < cc := by omega
            obtain ⟨V, r3, hr3, hr325, hV1, f3, f4, f5, f6⟩ := or_facts r2 v hr2 hv25
            obtain ⟨hh1, hh2⟩ := HI2.out.hit HSD.out (by rw [← HCC.out]; exact h2)
            rw [← hr3] at hh1 hh2
            have HH1 := Lib.hid hh1
            have HH2 : Hid (2 * (25 - pcN 25 r3) + (n2 + 1) + 1 ≤ 2 * (25 - pcN 25 r) + (m + 1)) := Lib.hid (by have h1 := hM.out; have h3 := pcN_le 25 r3; omega)
            clear hr3 hr325 hh1 hh2 hM HI2 h2 hr2
            go_wp2_with (first
              | (go_at_call 61; refine (HC3.out _).mono ?_; rintro e w3 ⟨rfl, mm2, rfl⟩)
              | (at_builtin; refine wl_app_own Tryd.underlying22 elem3 (w.heap.size + 1) (.tmp 60) (.tmp 62) rfl rfl rfl rfl ((HOD.out _).alloc _) (isL_one _ _ _) (by simp; omega) (by omega) ?_))
            intro a5 c5 w5 ho5 hg5 hb5 hv5
            have hO5 : Hid (OwnL w5 3 (w.heap.size + 1) a5 (n2 + 1) c5 (li (todo2 ++ [v]))) := Lib.hid (by rw [li_app]; exact ho5)
            have hQ5 : Hid (OwnL w5 3 Wo.drew.heap.size (some ⟨ga, 0, none⟩) Q c2 (li L)) := Lib.hid (((HQD.out _).alloc _).grown hg5 hS.out.symm)
            have hS5 : Hid (Sep a5 (some ⟨ga, 0, none⟩)) := Lib.hid (hS.out.via hv5 fun x' hx' => (((HQD.out _).alloc _).lt x' hx').2)
            have hb6 : Below (w.heap.size + 1) w1 w5 := ((belowN hb _).alloc (by simp; omega) _).trans (hb5.mono (Nat.le_refl _))
            clear ho5 hg5 hb5 hv5 HOD HQD
            go_wp2
            go_roundw
            case rel => first | exact ⟨i + 1, r3, n2 + 1, a5, c5, todo2 ++ [v], by omega, by go_num, rfl, rfl, HH1, hO5, hQ5, hS5, HH2, hb6⟩ | ((repeat apply Exists.intro); exact ⟨⟨i + 1, r3, n2 + 1, a5, c5, todo2 ++ [v], by omega, by go_num, rfl, rfl, HH1, hO5, hQ5, hS5, HH2, hb6⟩, rfl⟩)
            case measure => (simp [intOf] <;> omega)
          · have c1 : decide ((1 : Int) < (cc : Int)) = false := by simp; omega
            have c2' : ¬ 1 < cc := by omega
            have HH1 := Lib.hid (HI2.out.miss (by rw [← HCC.out]; exact h2))
            clear HI2 h2 hr2
            go_wp2_with fail
            refine (HC3.out _).mono ?_
            rintro e w3 ⟨rfl, mm2, rfl⟩
            go_wp2_with fail
            go_roundw
            case rel => first | exact ⟨i + 1, r2, n2, a, c, todo2, by omega, by go_num, rfl, rfl, HH1, Lib.hid (HOD.out _), Lib.hid (HQD.out _), hS, hM, belowN hb _⟩ | ((repeat apply Exists.intro); exact ⟨⟨i + 1, r2, n2, a, c, todo2, by omega, by go_num, rfl, rfl, HH1, Lib.hid (HOD.out _), Lib.hid (HQD.out _), hS, hM, belowN hb _⟩, rfl⟩)
            case measure => (simp [intOf] <;> omega)
        · obtain rfl : i = Q := by omega
          have HE : Hid (SprS R C z s r2 todo2 []) := Lib.hid (by have := hI.out; rwa [List.drop_of_length_le (by rw [HQL.out]; exact Nat.le_refl _)] at this)
          have HM3 : Hid (2 * (25 - pcN 25 r2) + n2 ≤ 75) := Lib.hid (by have h1 := hM.out; have h2 := hm.out; omega)
          clear hI hOQ hS
          go_wp2_with fail
          go_roundw
          case rel => first | exact ⟨r2, n2, a, c, todo2, rfl, rfl, hn2, HE, hO, HM3, hb⟩ | ((repeat apply Exists.intro); exact ⟨⟨r2, n2, a, c, todo2, rfl, rfl, hn2, HE, hO, HM3, hb⟩, rfl⟩)
          case measure => (simp [intOf, lenOf]; have := hM.out; omega)
end Go.Proofs.YtbhjphcomppjgaaDoor
