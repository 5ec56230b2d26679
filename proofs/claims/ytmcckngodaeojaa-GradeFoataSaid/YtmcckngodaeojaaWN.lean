/- Walks of chapter 3: the least order above two others (2). -/
import Derived.Test.YtmcckngodaeojaaWM
namespace Go.Proofs.Ytmcckngodaeojaa
open Go.RowKit Grade03

/-- where the table stands -/
structure JoS (g : Nat) (W wr : World) (F : Nat → Nat → Bool) : Prop where
  arr : ArrV BV wr (g + 1 + 1) 95 (matB F)
  below : Below (g + 1 + 1) W wr
theorem JoS.to {g : Nat} {W wr w' : World} {F : Nat → Nat → Bool} (h : JoS g W wr F) (hb : Below wr.heap.size wr w') : JoS g W w' F := ⟨h.arr.below hb, h.below.trans (hb.mono (by have := h.arr.lt; omega))⟩
theorem JoS.set {g : Nat} {W wr : World} {F F2 : Nat → Nat → Bool} (h : JoS g W wr F) {k : Nat} {v : Bool} (hF : (matB F).set k v = matB F2) : JoS g W (wr.setCell ⟨g + 1 + 1, k, none⟩ (.bool v)) F2 := ⟨by rw [← hF]; exact h.arr.set k v, h.below.setCell (p := ⟨g + 1 + 1, k, none⟩) (Nat.le_refl _) _⟩
theorem JoS.eq {g : Nat} {W wr : World} {F F2 : Nat → Nat → Bool} (h : JoS g W wr F) (hF : matB F = matB F2) : JoS g W wr F2 := ⟨by rw [← hF]; exact h.arr, h.below⟩
theorem JoS.drew {g : Nat} {W wr : World} {F : Nat → Nat → Bool} (h : JoS g W wr F) : JoS g W wr.drew F := h.to (Below.refl _ _).drew

set_option maxHeartbeats 8000000 in
set_option maxRecDepth 100000 in
theorem join_any (a b : Option Addr) (n c d : Nat) (la lb : List Int) (w : World) (h : IsL w a n c la) (h' : IsL w b n d lb) (hO : IsO la) (hO' : IsO lb) (hn1 : 1 ≤ n) (hn : n ≤ 7) :
    Calls Try.prog 78 #[.slice a n c, .slice b n d] w fun e w' => ∃ a' c', e = .returned (.slice a' n c') ∧ OwnL w' 3 w.heap.size a' n c' (joinO la lb) ∧ Below w.heap.size w w' := by
  have HO := Lib.hid hO
  have HO' := Lib.hid hO'
  obtain ⟨p0, p1, p2, p3, p4, p5, p6, hp⟩ := seven (plL_len la)
  obtain ⟨q0, q1, q2, q3, q4, q5, q6, hq⟩ := seven (plL_len lb)
  have HP := Lib.hid hp
  have HQ := Lib.hid hq
  have HLA := Lib.hid h.len
  have HLB := Lib.hid h'.len
  have HBD : Hid (Bnd n (U2 la lb)) := Lib.hid (by rw [← h.len]; exact U2_bnd la lb)
  have HST : Hid (Str (U2 la lb)) := Lib.hid (U2_str la lb)
  clear hO hO' hp hq
  go_enter Try.func78, Try.ntmps78
  go_wp2_with fail
  refine (placed_c _ _ _ _ _ h HO.out hn HP.out).mono ?_
  rintro e w2 ⟨rfl, b2⟩
  go_wp2_with fail
  refine (placed_c _ _ _ _ _ (h'.below b2) HO'.out hn HQ.out).mono ?_
  rintro e w3 ⟨rfl, b3⟩
  have k3 := b2.trans (b3.mono b2.size)
  have hs3 := k3.size
  clear b2 b3
  go_wp2_with fail
  have A1 : ArrV I64 (((w3.alloc (.cells #[I64 p0, I64 p1, I64 p2, I64 p3, I64 p4, I64 p5, I64 p6] 69)).alloc (.cells #[I64 q0, I64 q1, I64 q2, I64 q3, I64 q4, I64 q5, I64 q6] 69)).alloc (.cells #[.bool false, .bool false, .bool false, .bool false, .bool false, .bool false, .bool false, .bool false, .bool false, .bool false, .bool false, .bool false, .bool false, .bool false, .bool false, .bool false, .bool false, .bool false, .bool false, .bool false, .bool false, .bool false, .bool false, .bool false, .bool false, .bool false, .bool false, .bool false, .bool false, .bool false, .bool false, .bool false, .bool false, .bool false, .bool false, .bool false, .bool false, .bool false, .bool false, .bool false, .bool false, .bool false, .bool false, .bool false, .bool false, .bool false, .bool false, .bool false, .bool false] 95)) w3.heap.size 69 (plL la) := ((ArrV.new w3 _ _ _ _ rfl (by rw [HP.out]; rfl)).alloc _).alloc _
  have A2 : ArrV I64 (((w3.alloc (.cells #[I64 p0, I64 p1, I64 p2, I64 p3, I64 p4, I64 p5, I64 p6] 69)).alloc (.cells #[I64 q0, I64 q1, I64 q2, I64 q3, I64 q4, I64 q5, I64 q6] 69)).alloc (.cells #[.bool false, .bool false, .bool false, .bool false, .bool false, .bool false, .bool false, .bool false, .bool false, .bool false, .bool false, .bool false, .bool false, .bool false, .bool false, .bool false, .bool false, .bool false, .bool false, .bool false, .bool false, .bool false, .bool false, .bool false, .bool false, .bool false, .bool false, .bool false, .bool false, .bool false, .bool false, .bool false, .bool false, .bool false, .bool false, .bool false, .bool false, .bool false, .bool false, .bool false, .bool false, .bool false, .bool false, .bool false, .bool false, .bool false, .bool false, .bool false, .bool false] 95)) (w3.heap.size + 1) 69 (plL lb) := (ArrV.new (w3.alloc _) _ _ _ _ (by simp) (by rw [HQ.out]; rfl)).alloc _
  have A3 : ArrV BV (((w3.alloc (.cells #[I64 p0, I64 p1, I64 p2, I64 p3, I64 p4, I64 p5, I64 p6] 69)).alloc (.cells #[I64 q0, I64 q1, I64 q2, I64 q3, I64 q4, I64 q5, I64 q6] 69)).alloc (.cells #[.bool false, .bool false, .bool false, .bool false, .bool false, .bool false, .bool false, .bool false, .bool false, .bool false, .bool false, .bool false, .bool false, .bool false, .bool false, .bool false, .bool false, .bool false, .bool false, .bool false, .bool false, .bool false, .bool false, .bool false, .bool false, .bool false, .bool false, .bool false, .bool false, .bool false, .bool false, .bool false, .bool false, .bool false, .bool false, .bool false, .bool false, .bool false, .bool false, .bool false, .bool false, .bool false, .bool false, .bool false, .bool false, .bool false, .bool false, .bool false, .bool false] 95)) (w3.heap.size + 1 + 1) 95 (List.replicate 49 false) := ArrV.new ((w3.alloc (.cells #[I64 p0, I64 p1, I64 p2, I64 p3, I64 p4, I64 p5, I64 p6] 69)).alloc (.cells #[I64 q0, I64 q1, I64 q2, I64 q3, I64 q4, I64 q5, I64 q6] 69)) _ _ _ _ (by simp) (by rfl)
  have hgw : w.heap.size ≤ w3.heap.size := hs3
  have k4 : Below w.heap.size w (((w3.alloc (.cells #[I64 p0, I64 p1, I64 p2, I64 p3, I64 p4, I64 p5, I64 p6] 69)).alloc (.cells #[I64 q0, I64 q1, I64 q2, I64 q3, I64 q4, I64 q5, I64 q6] 69)).alloc (.cells #[.bool false, .bool false, .bool false, .bool false, .bool false, .bool false, .bool false, .bool false, .bool false, .bool false, .bool false, .bool false, .bool false, .bool false, .bool false, .bool false, .bool false, .bool false, .bool false, .bool false, .bool false, .bool false, .bool false, .bool false, .bool false, .bool false, .bool false, .bool false, .bool false, .bool false, .bool false, .bool false, .bool false, .bool false, .bool false, .bool false, .bool false, .bool false, .bool false, .bool false, .bool false, .bool false, .bool false, .bool false, .bool false, .bool false, .bool false, .bool false, .bool false] 95)) := ((k3.alloc hs3 _).alloc (by simp; omega) _).alloc (by simp; omega) _
  clear k3 HP HQ h h'
  generalize ((w3.alloc (.cells #[I64 p0, I64 p1, I64 p2, I64 p3, I64 p4, I64 p5, I64 p6] 69)).alloc (.cells #[I64 q0, I64 q1, I64 q2, I64 q3, I64 q4, I64 q5, I64 q6] 69)).alloc (.cells #[.bool false, .bool false, .bool false, .bool false, .bool false, .bool false, .bool false, .bool false, .bool false, .bool false, .bool false, .bool false, .bool false, .bool false, .bool false, .bool false, .bool false, .bool false, .bool false, .bool false, .bool false, .bool false, .bool false, .bool false, .bool false, .bool false, .bool false, .bool false, .bool false, .bool false, .bool false, .bool false, .bool false, .bool false, .bool false, .bool false, .bool false, .bool false, .bool false, .bool false, .bool false, .bool false, .bool false, .bool false, .bool false, .bool false, .bool false, .bool false, .bool false] 95) = W at *
  generalize w3.heap.size = g at *
  have HC1 : Hid (∀ x y, x < n → y < x → ∀ B, decide (bef la x y) = B → ∀ w9, Below (g + 1 + 1) W w9 → Calls Try.prog 98 #[.pointer (some ⟨g, 0, none⟩), .int .i64 (x : Int), .int .i64 (y : Int)] w9 fun e w' => e = .returned (.bool B) ∧ Below w9.heap.size w9 w') := Lib.hid (fun x y hx hy B hB w9 hb9 => turned_any g 69 (plL la) x y w9 ((hb9.block g (by omega)).trans A1) (plL_len la) (by omega) hy B (by rw [← hB]; exact plL_bef HO.out (by rw [HLA.out]; omega) (by rw [HLA.out]; omega) (by rw [HLA.out]; omega)))
  have HC2 : Hid (∀ x y, x < n → y < x → ∀ B, decide (bef lb x y) = B → ∀ w9, Below (g + 1 + 1) W w9 → Calls Try.prog 98 #[.pointer (some ⟨g + 1, 0, none⟩), .int .i64 (x : Int), .int .i64 (y : Int)] w9 fun e w' => e = .returned (.bool B) ∧ Below w9.heap.size w9 w') := Lib.hid (fun x y hx hy B hB w9 hb9 => turned_any (g + 1) 69 (plL lb) x y w9 ((hb9.block (g + 1) (by omega)).trans A2) (plL_len lb) (by omega) hy B (by rw [← hB]; exact plL_bef HO'.out (by rw [HLB.out]; omega) (by rw [HLB.out]; omega) (by rw [HLB.out]; omega)))
  have HJ0 : Hid (JoS g W W (iniF (U2 la lb) 0 0)) := Lib.hid ⟨by rw [iniF_zero]; exact A3, Below.refl _ _⟩
  clear A1 A2 A3
  go_loopw [25] (fun vx wr => ∃ x : Nat, x ≤ n ∧ vx = .int .i64 (x : Int) ∧ Hid (JoS g W wr (iniF (U2 la lb) x 0))) (fun vx _ => n - (intOf vx).toNat)
  case atStart => exact ⟨0, by omega, rfl, HJ0⟩
  case round =>
    clear HJ0
    obtain ⟨x, hx, rfl, hJ⟩ := hrel
    by_cases hlt : x < n
    · have q0' : (x : Int) < (n : Int) := by omega
      go_wp2_with fail
      go_loopw [29] (fun vy wr => ∃ y : Nat, y ≤ x ∧ vy = .int .i64 (y : Int) ∧ Hid (JoS g W wr (iniF (U2 la lb) x y))) (fun vy _ => n - (intOf vy).toNat)
      case atStart => exact ⟨0, by omega, rfl, hJ⟩
      case round =>
        clear hJ
        obtain ⟨y, hy, rfl, hJ⟩ := hrel
        by_cases hyx : y < x
        · have q1' : (y : Int) < (x : Int) := by omega
          have hx7 : x < 7 := by omega
          have hy7 : y < 7 := by omega
          have q2' : (x : Int) < 7 := by omega
          have q3' : (y : Int) < 7 := by omega
          obtain ⟨B1, hB1⟩ : ∃ B, decide (bef la x y) = B := ⟨_, rfl⟩
          obtain ⟨B2, hB2⟩ : ∃ B, decide (bef lb x y) = B := ⟨_, rfl⟩
          have K1 := Lib.hid (HC1.out x y hlt hyx B1 hB1)
          have K2 := Lib.hid (HC2.out x y hlt hyx B2 hB2)
          have hU : U2 la lb x y = (B1 || B2) := by
            rw [← hB1, ← hB2, U2, Bool.eq_iff_iff, decide_eq_true_iff, Bool.or_eq_true, decide_eq_true_iff, decide_eq_true_iff]
            exact ⟨fun h => h.2.2, fun h => ⟨hyx, by rw [HLA.out]; exact hlt, h⟩⟩
          have HU : Hid ((matB (iniF (U2 la lb) x y)).set (x * 7 + y) (B1 || B2) = matB (iniF (U2 la lb) x (y + 1))) := Lib.hid (by rw [← hU]; exact iniF_step _ hx7 hy7)
          have HM : Hid (∀ w9, Below wr.heap.size wr w9 → w9.cell? ⟨g + 1 + 1, x * 7 + y, none⟩ = some (.bool ((matB (iniF (U2 la lb) x y)).getD (x * 7 + y) false)) ∧ w9.frozen? ⟨g + 1 + 1, x * 7 + y, none⟩ = false) := Lib.hid (fun w9 hb9 => ⟨(hJ.out.to hb9).arr.cell (x * 7 + y) false (by rw [matB_len]; omega), (hJ.out.to hb9).arr.frozen _⟩)
          obtain ⟨v, hv⟩ : ∃ v, (matB (iniF (U2 la lb) x y)).getD (x * 7 + y) false = v := ⟨_, rfl⟩
          rw [hv] at HM
          have hbd := hJ.out.below
          have hgs : g + 1 + 1 ≤ wr.drew.heap.size := Nat.le_of_lt hJ.out.arr.lt
          obtain ⟨m0a, m0b⟩ := HM.out _ (Below.refl wr.heap.size wr).drew
          clear hB1 hB2 hU hv
          cases B1 with
          | true =>
            go_wp2_with fail
            first | go_region_with ((with_reducible refine (K1.out _ hbd.drew).mono ?_); rintro e w9 ⟨rfl, b9⟩; obtain ⟨m9, n9⟩ := HM.out _ ((Below.refl _ wr).drew.trans b9)) | fail
            all_goals
              have hJ9 := Lib.hid ((hJ.out.drew.to b9).set HU.out)
              clear b9 hJ hbd
              go_wp2_with fail
              go_roundw
              case rel => first | exact ⟨y + 1, by omega, by go_num, hJ9⟩ | ((repeat apply Exists.intro); exact ⟨⟨y + 1, by omega, by go_num, hJ9⟩, rfl⟩)
              case measure => (simp [intOf] <;> omega)
          | false =>
            go_wp2_with fail
            first | go_region_with (first | ((with_reducible refine (K1.out _ hbd.drew).mono ?_); rintro e w9 ⟨rfl, b9⟩; have hbd9 := hbd.drew.trans (b9.mono hgs)) | ((with_reducible refine (K2.out _ hbd9).mono ?_); rintro e w8 ⟨rfl, b8⟩; obtain ⟨m9, n9⟩ := HM.out _ ((Below.refl _ wr).drew.trans (b9.trans (b8.mono b9.size))))) | fail
            all_goals
              have hJ9 := Lib.hid (((hJ.out.drew.to b9).to b8).set HU.out)
              clear b9 b8 hJ hbd
              go_wp2_with fail
              go_roundw
              case rel => first | exact ⟨y + 1, by omega, by go_num, hJ9⟩ | ((repeat apply Exists.intro); exact ⟨⟨y + 1, by omega, by go_num, hJ9⟩, rfl⟩)
              case measure => (simp [intOf] <;> omega)
        · obtain rfl : y = x := by omega
          have hJ2 := Lib.hid (hJ.out.eq (iniF_next HST.out y))
          go_wp2_with fail
          go_roundw
          case rel => first | exact ⟨y + 1, by omega, by go_num, hJ2⟩ | ((repeat apply Exists.intro); exact ⟨⟨y + 1, by omega, by go_num, hJ2⟩, rfl⟩)
          case measure => (simp [intOf] <;> omega)
    · obtain rfl : x = n := by omega
      have hJ1 := Lib.hid (hJ.out.eq (iniF_fin (fun p q hpq => (HBD.out p q hpq).1)))
      clear HC1 HC2 hJ
      go_wp2_with fail
      go_loopw [49] (fun vy wr => ∃ y : Nat, y ≤ x ∧ vy = .int .i64 (y : Int) ∧ Hid (JoS g W wr (wK (U2 la lb) y))) (fun vy _ => x - (intOf vy).toNat)
      case atStart => exact ⟨0, by omega, rfl, hJ1⟩
      case round =>
        clear hJ1
        obtain ⟨y, hy, rfl, hJ⟩ := hrel
        by_cases hyn : y < x
        · have q1' : (y : Int) < (x : Int) := by omega
          have HSK : Hid (Str (wK (U2 la lb) y)) := Lib.hid (wK_str HST.out y)
          have HBK : Hid (Bnd x (wK (U2 la lb) y)) := Lib.hid (wK_bnd HBD.out y)
          have hJ2 := Lib.hid (hJ.out.eq (cloF_zero (wK (U2 la lb) y) y).symm)
          have HNX : Hid (wS (wK (U2 la lb) y) y = wK (U2 la lb) (y + 1)) := Lib.hid rfl
          clear hJ
          generalize wK (U2 la lb) y = M at *
          go_wp2_with fail
          go_loopw [53] (fun vz wr => ∃ z : Nat, z ≤ x ∧ vz = .int .i64 (z : Int) ∧ Hid (JoS g W wr (cloF M y z 0))) (fun vz _ => x - (intOf vz).toNat)
          case atStart => exact ⟨0, by omega, rfl, hJ2⟩
          case round =>
            clear hJ2
            obtain ⟨p, hp, rfl, hJ⟩ := hrel
            by_cases hpn : p < x
            · have q2' : (p : Int) < (x : Int) := by omega
              go_wp2_with fail
              go_loopw [57] (fun vz wr => ∃ z : Nat, z ≤ x ∧ vz = .int .i64 (z : Int) ∧ Hid (JoS g W wr (cloF M y p z))) (fun vz _ => x - (intOf vz).toNat)
              case atStart => exact ⟨0, by omega, rfl, hJ⟩
              case round =>
                clear hJ
                obtain ⟨z, hz, rfl, hJ⟩ := hrel
                by_cases hzn : z < x
                · have q3' : (z : Int) < (x : Int) := by omega
                  have hy7 : y < 7 := by omega
                  have hp7 : p < 7 := by omega
                  have hz7 : z < 7 := by omega
                  have r1 : (y : Int) < 7 := by omega
                  have r2 : (p : Int) < 7 := by omega
                  have r3 : (z : Int) < 7 := by omega
                  have m1 := hJ.out.arr.cell (p * 7 + y) false (by rw [matB_len]; omega)
                  have m2 := hJ.out.arr.cell (y * 7 + z) false (by rw [matB_len]; omega)
                  have m3 := hJ.out.arr.cell (p * 7 + z) false (by rw [matB_len]; omega)
                  have n3 := hJ.out.arr.frozen (p * 7 + z)
                  rw [matB_get _ hp7 hy7, cloF_col HSK.out] at m1
                  rw [matB_get _ hy7 hz7, cloF_row HSK.out] at m2
                  obtain ⟨v3, hv3⟩ : ∃ v, (matB (cloF M y p z)).getD (p * 7 + z) false = v := ⟨_, rfl⟩
                  rw [hv3] at m3
                  obtain ⟨b1, hb1⟩ : ∃ b, M p y = b := ⟨_, rfl⟩
                  obtain ⟨b2, hb2⟩ : ∃ b, M y z = b := ⟨_, rfl⟩
                  rw [hb1] at m1
                  rw [hb2] at m2
                  have G1 := Lib.hid hb1
                  have G2 := Lib.hid hb2
                  clear hv3 hb1 hb2
                  cases b1 with
                  | false =>
                    have hJ2 := Lib.hid (hJ.out.eq (cloF_miss (fun h => by have := h.1; rw [G1.out] at this; cases this)))
                    clear hJ
                    go_wp2_with fail
                    go_roundw
                    case rel => first | exact ⟨z + 1, by omega, by go_num, hJ2⟩ | ((repeat apply Exists.intro); exact ⟨⟨z + 1, by omega, by go_num, hJ2⟩, rfl⟩)
                    case measure => (simp [intOf] <;> omega)
                  | true =>
                    cases b2 with
                    | false =>
                      have hJ2 := Lib.hid (hJ.out.eq (cloF_miss (fun h => by have := h.2; rw [G2.out] at this; cases this)))
                      clear hJ
                      go_wp2_with fail
                      go_roundw
                      case rel => first | exact ⟨z + 1, by omega, by go_num, hJ2⟩ | ((repeat apply Exists.intro); exact ⟨⟨z + 1, by omega, by go_num, hJ2⟩, rfl⟩)
                      case measure => (simp [intOf] <;> omega)
                    | true =>
                      have hJ2 := Lib.hid (hJ.out.set (cloF_hit hp7 hz7 ⟨G1.out, G2.out⟩))
                      clear hJ
                      go_wp2_with fail
                      go_roundw
                      case rel => first | exact ⟨z + 1, by omega, by go_num, hJ2⟩ | ((repeat apply Exists.intro); exact ⟨⟨z + 1, by omega, by go_num, hJ2⟩, rfl⟩)
                      case measure => (simp [intOf] <;> omega)
                · obtain rfl : z = x := by omega
                  have hJ2 := Lib.hid (hJ.out.eq (cloF_next HBK.out y p))
                  clear hJ
                  go_wp2_with fail
                  go_roundw
                  case rel => first | exact ⟨p + 1, by omega, by go_num, hJ2⟩ | ((repeat apply Exists.intro); exact ⟨⟨p + 1, by omega, by go_num, hJ2⟩, rfl⟩)
                  case measure => (simp [intOf] <;> omega)
            · obtain rfl : p = x := by omega
              have hJ2 := Lib.hid (hJ.out.eq (cloF_fin HBK.out y))
              rw [HNX.out] at hJ2
              clear hJ
              go_wp2_with fail
              go_roundw
              case rel => first | exact ⟨y + 1, by omega, by go_num, hJ2⟩ | ((repeat apply Exists.intro); exact ⟨⟨y + 1, by omega, by go_num, hJ2⟩, rfl⟩)
              case measure => (simp [intOf] <;> omega)
        · obtain rfl : y = x := by omega
          have HSP : Hid (SPO y (relT (wK (U2 la lb) y))) := Lib.hid (by
            have := join_spo HO.out HO'.out (by rw [HLA.out, HLB.out])
            rw [HLA.out] at this
            exact this)
          have F : Hid (joinO la lb = sortO y (relT (wK (U2 la lb) y))) := Lib.hid (by rw [joinO, HLA.out])
          have hbW := hJ.out.below
          have hA9 := hJ.out.arr
          have hJ9 := Lib.hid hJ.out
          have HCJ : Hid (∀ p q : Nat, p < y → q < y → p ≠ q → ∀ B, decide (relT (wK (U2 la lb) y) p q) = B → ∀ w9, Below wr.heap.size wr w9 → Calls Try.prog 99 #[.int .i64 (p : Int), .int .i64 (q : Int), .pointer (some ⟨g + 1 + 1, 0, none⟩)] w9 fun e w' => e = .returned (.bool B) ∧ Below w9.heap.size w9 w') := Lib.hid (fun p q hp hq _ B hB w9 hb9 => (join1_any (g + 1 + 1) y p q _ w9 (hJ9.out.to hb9).arr hn hp hq B hB).mono fun e w' ⟨h1, h2⟩ => ⟨h1, by rw [← h2]; exact Below.refl _ _⟩)
          obtain ⟨r0, r1, r2, r3, r4, r5, r6, hr⟩ := seven7 (needF_len (R := relT (wK (U2 la lb) y)) y)
          have hbf := before_j (R := relT (wK (U2 la lb) y)) y (g + 1 + 1) wr hn HCJ
          rw [hr] at hbf
          have HBF := Lib.hid hbf
          have HR := Lib.hid hr
          have kw := k4.trans (hbW.mono (by omega))
          clear hr hbf hJ hA9 hbW
          go_wp2_with fail
          refine HBF.out.mono ?_
          rintro e w5 ⟨rfl, b5⟩
          go_wp2_with fail
          refine (sorted_any y w5 hn1 hn HSP.out HR.out).mono ?_
          rintro e w6 ⟨a6, c6, rfl, o6, b6⟩
          have k6 := kw.trans (b5.mono kw.size)
          go_wp2
          go_ret
          exact ⟨_, _, rfl, by rw [F.out]; exact o6.weaken k6.size, k6.trans (b6.mono k6.size)⟩
end Go.Proofs.Ytmcckngodaeojaa
