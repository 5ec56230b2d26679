/- Walks of chapter 11: all divisions (2). -/
import Derived.Test.YtjedmiegcbdedaaXa
namespace Go.Proofs.Ytjedmiegcbdedaa
open Go.RowKit Store11

set_option maxHeartbeats 4000000 in
set_option maxRecDepth 100000 in
theorem all_any (n B F : Nat) (caps : Array Value) (Inv : Nat → World → Prop) (hn : n ≤ 20)
    (hcf : ∀ (args : Array Value) (w : World), (callFunc F args).run Try.prog w = .ok (.enter F args) w)
    (stab : Hid (∀ i w1 w2, Inv i w1 → Below B w1 w2 → Inv i w2))
    (heach : Hid (∀ (i : Nat) (l : List Int) w1 a m c, (allL n)[i]? = some l → Inv i w1 → IsL w1 a m c l → (∀ x, a = some x → B ≤ x.block) → B ≤ w1.heap.size → Calls Try.prog F (#[.slice a m c] ++ caps) w1 fun e w2 => e = .returned (.tuple #[]) ∧ Inv (i + 1) w2 ∧ Above B w1 w2))
    (w : World) (hB : B ≤ w.heap.size) (hI : Inv 0 w) :
    Calls Try.prog 47 #[.int .i64 n, .func (.func F) #[] caps] w fun e w' => e = .returned (.tuple #[]) ∧ Inv (allL n).length w' ∧ Above B w w' := by
  have HI := Lib.hid hI
  clear hI
  go_enter Try.func47, Try.ntmps47
  go_wp2_with fail
  have hb : Below w.heap.size w (((w.alloc (.cells #[.int .i64 (n : Int)] 3)).alloc (.cells #[.func (.func F) #[] caps] 50)).alloc (.cells #[.func (.func 85) #[] #[.pointer (some ⟨w.heap.size, 0, none⟩), .pointer (some ⟨w.heap.size + 1, 0, none⟩), .pointer (some ⟨w.heap.size + 1 + 1, 0, none⟩)]] 81)) := (((Below.refl _ w).alloc (Nat.le_refl _) _).alloc (by simp) _).alloc (by simp; omega) _
  refine (put_all n B w.heap.size (w.heap.size + 1) (w.heap.size + 1 + 1) F caps (allL n) Inv hn hB (by omega) (by omega) hcf stab heach n [] 0 0 none 0 _ (by simp) (by simp) (fun t _ => by simp [allL]) (stab.out _ _ _ HI.out (hb.mono hB)) (IsL.nilL _) (by simp) (Nat.le_trans hB hb.size) (by simp [go_sem]) (by simp [go_sem]) (by simp [go_sem])).mono ?_
  rintro e w2 ⟨rfl, hI2, hA2⟩
  have hA3 := (Above.of_below hb).trans hA2
  clear hA2 hb
  go_wp2
  go_end0
  exact ⟨rfl, by simpa [allL] using hI2, hA3⟩
end Go.Proofs.Ytjedmiegcbdedaa
