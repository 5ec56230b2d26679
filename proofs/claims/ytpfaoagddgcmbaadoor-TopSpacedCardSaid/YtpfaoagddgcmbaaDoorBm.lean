/- Walks of chapter 8 at the top seat: strings.Builder at letters of one byte; the even word of eight boxes and three bands; places of bands. -/
import Derived.Test.YtpfaoagddgcmbaaDoorTh
import Derived.Shelf.Strings.Builder1
import Derived.Lib.Builder
import Derived.Lib.UnsafeStr
namespace Go.Proofs.YtpfaoagddgcmbaaDoor
open Go.RowKit
set_option maxRecDepth 100000
def brRen : Go.Shelf.Ren := ⟨fun | 169 => 107 | n => n, fun | 70 => 141 | 9 => 9 | 0 => 0 | 72 => 144 | 37 => 142 | 127 => 165 | 3 => 3 | 5 => 5 | n => n, fun | n => n⟩
theorem brLays : Go.Proofs.Lays.n169 Tryd.prog brRen := {
  mixed := by kernel_rfl
  f169 := Tryd.func107.trans (congrArg some (by kernel_rfl))
  t0 := Tryd.underlying0
  a0 := Tryd.isAgg0
  z0 := Tryd.sizeOf0
  v0 := Tryd.zeroValue0
  t3 := Tryd.underlying3
  a3 := Tryd.isAgg3
  z3 := Tryd.sizeOf3
  v3 := Tryd.zeroValue3
  t9 := Tryd.underlying9
  a9 := Tryd.isAgg9
  z9 := Tryd.sizeOf9
  v9 := Tryd.zeroValue9
  t37 := Tryd.underlying142
  a37 := Tryd.isAgg142
  z37 := Tryd.sizeOf142
  v37 := Tryd.zeroValue142
  t70 := Tryd.underlying141
  a70 := Tryd.isAgg141
  z70 := Tryd.sizeOf141
  v70 := Tryd.zeroValue141
  t72 := Tryd.underlying144
  a72 := Tryd.isAgg144
  z72 := Tryd.sizeOf144
  v72 := Tryd.zeroValue144
  t127 := Tryd.underlying165
  a127 := Tryd.isAgg165
  z127 := Tryd.sizeOf165
  v127 := Tryd.zeroValue165 }
theorem brExtra : Builder.Extra Tryd.prog brRen := {
  sizeBuilder := by kernel_rfl
  liesBuilder := by kernel_rfl
  t5 := Tryd.underlying5
  a5 := Tryd.isAgg5
  z5 := Tryd.sizeOf5
  v5 := Tryd.zeroValue5
  infoByte := by kernel_rfl
  cellsByte := by kernel_rfl
  sizeByte := by kernel_rfl
  neB5 := by decide }
theorem bString_any (B b : Nat) (l : List UInt8) (w : World) (h : Lib.IsBuilder 144 5 B b (Lib.byteCells l) w) (h0 : l ≠ []) :
    Calls Tryd.prog 107 #[.pointer (some ⟨b, 0, none⟩)] w fun e w' => e = .returned (.string ⟨l.toArray⟩) ∧ Below B w w' := Any.Builder_String brLays brExtra B b l w h h0
set_option maxHeartbeats 1000000 in
theorem bCopy_used (b : Nat) (w : World) (h0 : w.cell? ⟨b, 0, none⟩ = some (.pointer (some ⟨b, 0, none⟩))) :
    Calls Tryd.prog 119 #[.pointer (some ⟨b, 0, none⟩)] w fun e w' => e = .returned (.tuple #[]) ∧ w = w' := by
  obtain ⟨j, hj, _⟩ := Option.map_eq_some_iff.1 brExtra.sizeBuilder
  go_enter Tryd.func119, Tryd.ntmps119
  go_wp2
  rw [Lib.run_neq_ptr_same w _ Tryd.underlying141 hj]
  go_wp2
  go_end0
  exact ⟨rfl, rfl⟩
set_option maxHeartbeats 1000000 in
theorem bCopy_fresh (b : Nat) (w : World) (h0 : w.cell? ⟨b, 0, none⟩ = some (.pointer none)) (hsh : w.shape? b = some (144, 2)) (hfz : w.frozen? ⟨b, 0, none⟩ = false) :
    Calls Tryd.prog 119 #[.pointer (some ⟨b, 0, none⟩)] w fun e w' => e = .returned (.tuple #[]) ∧ w' = w.setCell ⟨b, 0, none⟩ (.pointer (some ⟨b, 0, none⟩)) := by
  obtain ⟨j, hj, hjs⟩ := Option.map_eq_some_iff.1 brExtra.sizeBuilder
  go_enter Tryd.func119, Tryd.ntmps119
  go_wp2
  rw [Lib.run_to_unsafe w ⟨b, 0, none⟩ Tryd.underlying141 Tryd.underlying177 hj (by rw [hjs]; decide) hsh (Nat.zero_lt_succ 1)]
  simp only [Result.andThen]
  rw [Oper.upon_value]
  go_wp2
  rw [run_callFunc_extern Tryd.func138 (by kernel_rfl) (by kernel_rfl) (by kernel_rfl) (e := Extern.AbiNoEscape.same) (by kernel_rfl)]
  rw [Lib.run_noEscape]
  simp only [Result.andThen]
  rw [Oper.upon_value]
  go_wp2
  rw [Lib.run_from_unsafe w ⟨b, 0, none⟩ Tryd.underlying177 Tryd.underlying141 hj hsh brExtra.liesBuilder]
  simp only [Result.andThen]
  rw [Oper.upon_value]
  go_wp2
  go_end0
  exact ⟨rfl, rfl⟩
theorem bCopy_any (B b : Nat) (bs : List Value) (w : World) (h : Lib.IsBuilder 144 5 B b bs w) :
    Calls Tryd.prog 119 #[.pointer (some ⟨b, 0, none⟩)] w fun e w' => e = .returned (.tuple #[]) ∧ Lib.BuilderAt 144 5 B b (.pointer (some ⟨b, 0, none⟩)) bs w' ∧ Below B w w' := by
  rcases h with h | h
  · refine (bCopy_fresh b w h.cell0 h.shape h.frozen0).mono ?_
    rintro e w' ⟨rfl, rfl⟩
    exact ⟨rfl, h.used _, (Below.refl B w).setCell (p := ⟨b, 0, none⟩) h.1 _⟩
  · refine (bCopy_used b w h.cell0).mono ?_
    rintro e w' ⟨rfl, rfl⟩
    exact ⟨rfl, h, Below.refl B _⟩
set_option maxHeartbeats 2000000 in
theorem appRune_any (B : Nat) (v : Value) (bs : List Value) (c : Int) (w : World) (hown : w.ownsRow B 5 1 v bs.length bs) (hc0 : 0 ≤ c) (hc1 : c ≤ 127) (hlen : bs.length + 1 ≤ 1000000) (hB : B ≤ w.heap.size) :
    Calls Tryd.prog 120 #[v, .int .i32 c] w fun e w' => ∃ g cap, e = .returned (.slice (some ⟨g, 0, none⟩) (bs.length + 1) cap) ∧ w'.ownsRow B 5 1 (.slice (some ⟨g, 0, none⟩) (bs.length + 1) cap) (bs.length + 1) (bs ++ [.int .u8 c]) ∧ (∀ k, k < w.heap.size → v.ownBlock ≠ some k → w'.heap[k]? = w.heap[k]?) ∧ Below B w w' := by
  obtain ⟨i0, hi, hz0, hz1, hz2⟩ := info_parts (P := Tryd.prog) (e := 5) brExtra.infoByte
  have w1 : IntKind.u32.wrap c = c := by rw [IntKind.wrap_u32]; omega
  have w2 : IntKind.u8.wrap c = c := by rw [IntKind.wrap_u8]; omega
  go_enter Tryd.func120, Tryd.ntmps120
  go_wp2_with (at_builtin; refine wpList_append_own _ rfl _ _ 142 rfl B 5 i0 (.int .u8 0) 1 1 Tryd.underlying142 hi hz0 hz1 hz2 rfl (by decide) _ _ _ rfl (hown.alloc _) ⟨w.heap.size, 0, none⟩ 1 1 [.int .u8 c] rfl rfl ?c1 ?c2 ?c3 ?c4 ?c5 ?_)
  case c1 =>
    intro j u hj
    match j, hj with
    | 0, hj => simp at hj; subst hj; simp [Addr.add]
  case c2 => intro u hu; simp at hu; subst hu; rfl
  case c3 => unfold maxLen; omega
  case c4 => omega
  case c5 => simp; omega
  intro v' w3 hown' hgrow _
  have hk : ∀ k, k < w.heap.size → v.ownBlock ≠ some k → w3.heap[k]? = w.heap[k]? := fun k h1 h2 => by
    rw [hgrow.block k (by simp; omega) (fun e => h2 e.symm), Lib.alloc_old w _ k h1]
  have hb : Below B w w3 := ((Below.refl B w).alloc hB _).grown hgrow (by simp; omega) (fun k hk => (hown.lt k hk).1)
  obtain ⟨g, cap, rfl⟩ : ∃ g cap, v' = .slice (some ⟨g, 0, none⟩) (bs.length + 1) cap := by
    rcases hown'.2 with ⟨_, h0⟩ | ⟨g, cap, cur, hv, _⟩
    · omega
    · exact ⟨g, cap, hv⟩
  have HO := Lib.hid hown'
  have HK := Lib.hid hk
  clear hk hown' hgrow
  go_wp2
  go_ret
  exact ⟨g, cap, rfl, HO.out, HK.out, hb⟩
set_option maxHeartbeats 2000000 in
theorem bRune_any (B b : Nat) (bs : List Value) (c : Int) (w : World) (h : Lib.IsBuilder 144 5 B b bs w) (hc0 : 0 ≤ c) (hc1 : c ≤ 127) (hlen : bs.length + 1 ≤ 1000000) (hBw : B ≤ w.heap.size) :
    Calls Tryd.prog 106 #[.pointer (some ⟨b, 0, none⟩), .int .i32 c] w fun e w' => e = .returned (.tuple #[.int .i64 1, .nilIface]) ∧ Lib.IsBuilder 144 5 B b (bs ++ [.int .u8 c]) w' ∧ Below B w w' := by
  have HC := Lib.hid (bCopy_any B b bs w h)
  clear h
  go_enter Tryd.func106, Tryd.ntmps106
  go_wp2_with fail
  refine HC.out.mono ?_
  rintro e w1 ⟨rfl, h1, hb1⟩
  have hlt := h1.lt
  obtain ⟨hB, v, hbk, hown, hne⟩ := h1
  have hs1 := hb1.size
  obtain ⟨ao, cap0, hv⟩ : ∃ ao cap, v = .slice ao bs.length cap := by
    rcases hown.2 with ⟨hv, h0⟩ | ⟨g, cap, cur, hv, _⟩
    · exact ⟨none, 0, by rw [hv, h0]⟩
    · exact ⟨_, _, hv⟩
  have HR := Lib.hid (appRune_any B v bs c w1 hown hc0 hc1 hlen (by omega))
  subst hv
  have c1 : w1.cell? ⟨b, 1, none⟩ = some (.slice ao bs.length cap0) := by rw [Lib.cell_of_heap hbk]; rfl
  have HBK := Lib.hid hbk
  have HNE := Lib.hid hne
  clear hbk hown hne
  go_wp2_with fail
  refine HR.out.mono ?_
  rintro e w2 ⟨g, cap, rfl, ho2, hk2, hb2⟩
  have hbk2 : w2.heap[b]? = some (.cells #[.pointer (some ⟨b, 0, none⟩), .slice ao bs.length cap0] 144 (0, 0)) := by rw [hk2 b hlt HNE.out]; exact HBK.out
  have d1 : w2.cell? ⟨b, 1, none⟩ = some (.slice ao bs.length cap0) := by rw [Lib.cell_of_heap hbk2]; rfl
  have f1 : w2.frozen? ⟨b, 1, none⟩ = false := Lib.frozen_of_heap hbk2 1
  have hP : Lib.BuilderAt 144 5 B b (.pointer (some ⟨b, 0, none⟩)) (bs ++ [.int .u8 c]) (w2.setCell ⟨b, 1, none⟩ (.slice (some ⟨g, 0, none⟩) (bs.length + 1) cap)) := Lib.BuilderAt.put (T := 144) (e := 5) hB hbk2 (bs' := bs ++ [.int .u8 c]) (by simpa using ho2) (by decide)
  have hd1 : (w2.setCell ⟨b, 1, none⟩ (.slice (some ⟨g, 0, none⟩) (bs.length + 1) cap)).cell? ⟨b, 1, none⟩ = some (.slice (some ⟨g, 0, none⟩) (bs.length + 1) cap) := by
    obtain ⟨_, v', hv1, _, _⟩ := hP
    have e2 : (w2.setCell ⟨b, 1, none⟩ (.slice (some ⟨g, 0, none⟩) (bs.length + 1) cap)).heap[b]? = some (.cells #[.pointer (some ⟨b, 0, none⟩), .slice (some ⟨g, 0, none⟩) (bs.length + 1) cap] 144 (0, 0)) := by
      simp [World.setCell, Array.getElem?_modify, hbk2]
    rw [Lib.cell_of_heap e2]; rfl
  have hbE : Below B w (w2.setCell ⟨b, 1, none⟩ (.slice (some ⟨g, 0, none⟩) (bs.length + 1) cap)) := (hb1.trans hb2).setCell (p := ⟨b, 1, none⟩) hB _
  have w9 : IntKind.i64.wrap (((bs.length : Int) + 1) - (bs.length : Int)) = 1 := by rw [IntWalk.i64_in _ (by omega)]; omega
  have HP := Lib.hid hP
  clear hbk2 ho2 hk2 hP
  go_wp2
  go_ret2
  exact ⟨by simp [w9], .inr HP.out, hbE⟩
end Go.Proofs.YtpfaoagddgcmbaaDoor
