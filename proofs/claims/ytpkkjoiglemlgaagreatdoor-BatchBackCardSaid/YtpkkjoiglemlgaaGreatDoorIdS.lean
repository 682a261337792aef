/-
  Sets of names (layer 12): what lies in memory, putting in, taking out, asking. No condition.
-/
import Derived.Test.YtpkkjoiglemlgaaGreatDoorMapK
import Derived.Test.YtpkkjoiglemlgaaGreatDoorFr
namespace Go.Proofs.YtpkkjoiglemlgaaGreatDoor
set_option linter.unusedVariables false
open Go.ChangeShapes Go.WideShapes Go.ChangeAt Go.RowKit Go.Extern.Stop Go.Stop Go.Extern
open Go.ChangeMaps (setBlock)

/-- A set's names, each with how often it was put in. -/
def Cnt (c : Int) (l : List ((Int × Int) × Value)) : Prop := ∀ p ∈ l, idOk p.1 ∧ ∃ n : Int, p.2 = .int .i64 n ∧ 1 ≤ n ∧ n ≤ c
def cntK (l : List ((Int × Int) × Value)) (k : Int × Int) : Int := match lookK l k with
  | some (.int _ n) => n
  | _ => 0
theorem cntK_look {c : Int} {l : List ((Int × Int) × Value)} (h : Cnt c l) (k : Int × Int) : (lookK l k).getD (.int .i64 0) = .int .i64 (cntK l k) ∧ 0 ≤ cntK l k ∧ (cntK l k ≤ c ∨ cntK l k = 0) ∧ ((cntK l k = 0) ↔ k ∉ l.map (·.1)) := by
  unfold cntK
  cases hk : lookK l k with
  | none =>
    refine ⟨rfl, Int.le_refl _, .inr rfl, fun _ hm => ?_, fun _ => rfl⟩
    obtain ⟨p, hp, rfl⟩ := List.mem_map.1 hm
    unfold lookK at hk
    rw [Option.map_eq_none_iff, List.find?_eq_none] at hk
    exact hk p hp (by simp)
  | some v =>
    unfold lookK at hk
    obtain ⟨p, hp, rfl⟩ := Option.map_eq_some_iff.1 hk
    obtain ⟨_, n, hn, h1, h2⟩ := h p (List.mem_of_find?_eq_some hp)
    have hpk : p.1 = k := by simpa using List.find?_some hp
    rw [hn]
    refine ⟨rfl, by simp only; omega, .inl h2, fun h0 => by simp only at h0; omega, fun h0 => absurd ?_ h0⟩
    exact List.mem_map.2 ⟨p, List.mem_of_find?_eq_some hp, hpk⟩
set_option maxHeartbeats 1000000 in
set_option maxRecDepth 100000 in
theorem bagPut_old {w : World} {b m : Nat} {c : Int} {l : List ((Int × Int) × Value)} (hB : Blk w b 113 #[.map (some m)]) (hM : MapKs w m l) (hne : m ≠ b) (hc : Cnt c l) (hc1 : c < 9223372036854775807) (x y : Int) (hk : idOk (x, y)) :
    Calls Tryz.prog 66 #[.pointer (some ⟨b, 0, none⟩), .agg #[.int .i64 x, .int .i64 y]] w fun e w' => e = .returned (.bool (cntK l (x, y) == 0)) ∧ Blk w' b 113 #[.map (some m)] ∧ MapKs w' m (putK l (x, y) (.int .i64 (cntK l (x, y) + 1))) ∧ Chg (fun k => k = m) w w' := by
  have hl : ∀ p ∈ l, idOk p.1 := fun p hp => (hc p hp).1
  obtain ⟨e1, e2, e3, _⟩ := cntK_look hc (x, y)
  have c0 := hB.cell 0
  have hM1 : MapKs (w.alloc (.cells #[.int .i64 x, .int .i64 y] 23)).drew m l := hM.keep (Below.heap_alloc _ _ _ hM.lt)
  have hL := run_lookK 109 3 Tryz.underlying109 (.int .i64 0) (fun w => by go_simp) hM1 hl hk false
  rw [e1] at hL
  obtain ⟨ob, hpt, hmp⟩ := run_putK 109 3 Tryz.underlying109 hM1 hl hk (.int .i64 (cntK l (x, y) + 1))
  have hpt' := hpt (w.alloc (.cells #[.int .i64 x, .int .i64 y] 23)).drew.drew rfl
  generalize hn : cntK l (x, y) = n at *
  simp only [idV, Bool.false_eq_true, if_false] at hL hpt'
  have hlt := hB.lt
  have hmt := fun w r => run_eql_map_nil (P := Tryz.prog) w 109 23 3 r Tryz.underlying109
  replace hn := Lib.hid hn
  replace hB := Lib.hid hB
  replace hM := Lib.hid hM
  replace hM1 := Lib.hid hM1
  replace hmp := Lib.hid hmp
  replace hc := Lib.hid hc
  replace hl := Lib.hid hl
  clear hpt e1
  go_enter Tryz.func66, Tryz.ntmps66
  go_wp2_with fail
  go_region
  go_wp2_with fail
  go_region
  go_wp2_with fail
  go_ret
  exact ⟨rfl, Blk.setb (hB.out.alloc _).drew.drew (Ne.symm hne) _, hmp.out _ (by have := hM.out.lt; simp; omega), Chg.setBlock (((Chg.refl (fun k => k = m) w).alloc _).drew.drew) (.inl rfl) _⟩
set_option maxHeartbeats 1000000 in
set_option maxRecDepth 100000 in
theorem bagPut_new {w : World} {b : Nat} (hB : Blk w b 113 #[.map none]) (x y : Int) (hk : idOk (x, y)) :
    Calls Tryz.prog 66 #[.pointer (some ⟨b, 0, none⟩), .agg #[.int .i64 x, .int .i64 y]] w fun e w' => e = .returned (.bool true) ∧ ∃ m, w.heap.size ≤ m ∧ m < w'.heap.size ∧ Blk w' b 113 #[.map (some m)] ∧ MapKs w' m [((x, y), .int .i64 1)] ∧ Chg (fun k => k = b) w w' := by
  have c0 := hB.cell 0
  have f0 := hB.frozen 0
  have hlt := hB.lt
  have hmm := @run_makeMap Tryz.prog
  have hmt := fun w r => run_eql_map_nil (P := Tryz.prog) w 109 23 3 r Tryz.underlying109
  replace hB := Lib.hid hB
  go_enter Tryz.func66, Tryz.ntmps66
  go_wp2_with fail
  have B3 := (((hB.out.set_ 0 (.map (some (w.heap.size + 1)))).eq_cs (cs' := #[.map (some (w.heap.size + 1))]) rfl).alloc (.cells #[.int .i64 x, .int .i64 y] 23)).alloc (.map #[] 0)
  have X3 := (Blk.new (w.setCell ⟨b, 0, none⟩ (.map (some (w.heap.size + 1)))) 23 #[.int .i64 x, .int .i64 y]).alloc (.map #[] 0)
  have M3 := MapKs.made ((w.setCell ⟨b, 0, none⟩ (.map (some (w.heap.size + 1)))).alloc (.cells #[.int .i64 x, .int .i64 y] 23))
  have K3 : Chg (fun k => k = b) w (((w.setCell ⟨b, 0, none⟩ (.map (some (w.heap.size + 1)))).alloc (.cells #[.int .i64 x, .int .i64 y] 23)).alloc (.map #[] 0)) := (((Chg.refl (fun k => k = b) w).setCell (p := ⟨b, 0, none⟩) (.inl rfl) _).alloc _).alloc _
  have s1 : (w.setCell ⟨b, 0, none⟩ (.map (some (w.heap.size + 1)))).heap.size = w.heap.size := size_setCell _ _ _
  have s2 : ((w.setCell ⟨b, 0, none⟩ (.map (some (w.heap.size + 1)))).alloc (.cells #[.int .i64 x, .int .i64 y] 23)).heap.size = w.heap.size + 1 := by rw [World.size_alloc, s1]
  have s3 : (((w.setCell ⟨b, 0, none⟩ (.map (some (w.heap.size + 1)))).alloc (.cells #[.int .i64 x, .int .i64 y] 23)).alloc (.map #[] 0)).heap.size = w.heap.size + 2 := by rw [World.size_alloc, s2]
  rw [s1] at X3
  rw [s2] at M3
  clear c0 f0 s1 s2
  generalize (((w.setCell ⟨b, 0, none⟩ (.map (some (w.heap.size + 1)))).alloc (.cells #[.int .i64 x, .int .i64 y] 23)).alloc (.map #[] 0)) = W at *
  have c0 := B3.cell 0
  have x0 := X3.cell 0
  have x1 := X3.cell 1
  have M4 : MapKs W.drew (w.heap.size + 1) [] := M3.keep rfl
  have hL := run_lookK 109 3 Tryz.underlying109 (.int .i64 0) (fun w => by go_simp) M4 (fun p hp => by cases hp) hk false
  obtain ⟨ob, hpt, hmp⟩ := run_putK 109 3 Tryz.underlying109 M4 (fun p hp => by cases hp) hk (.int .i64 1)
  have hpt' := hpt W.drew.drew rfl
  simp only [idV, Bool.false_eq_true, if_false, lookK, List.find?_nil, Option.map_none, Option.getD_none] at hL hpt'
  rw [putK_new (fun p hp => by cases hp), List.nil_append] at hmp
  replace B3 := Lib.hid B3
  replace hmp := Lib.hid hmp
  replace K3 := Lib.hid K3
  clear hpt M3 M4 X3
  go_region
  go_wp2_with fail
  go_region
  go_wp2_with fail
  go_ret
  exact ⟨rfl, w.heap.size + 1, by omega, by rw [size_setBlock]; show _ < W.heap.size; omega, Blk.setb B3.out.drew.drew (by omega) _, hmp.out _ (by show _ < W.heap.size; omega), Chg.trans (F := fun k => k = b) (G := fun k => k = w.heap.size + 1) K3.out.drew.drew (Chg.setBlock (Chg.refl (fun k => k = w.heap.size + 1) _) (.inl rfl) _) (fun i hi => .inr (by omega))⟩
end Go.Proofs.YtpkkjoiglemlgaaGreatDoor
