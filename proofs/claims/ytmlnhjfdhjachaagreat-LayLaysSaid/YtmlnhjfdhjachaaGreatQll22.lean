import Derived.Test.YtmlnhjfdhjachaaGreatQll21
/-
  Laying changes alone (layer 30): what the field tells behind it. No condition.
-/
namespace Go.Proofs.YtmlnhjfdhjachaaGreat
set_option linter.unusedVariables false
open Go.ChangeShapes Go.WideShapes Go.ChangeAt Go.RowKit
open Go.ChangeMaps (setBlock)

theorem nodup_sub {α : Type} : ∀ (l k : List α), l.Nodup → (∀ x ∈ l, x ∈ k) → l.length ≤ k.length
  | [], k, _, _ => Nat.zero_le _
  | x :: l, k, hn, hs => by
    obtain ⟨a, b, rfl⟩ := List.append_of_mem (hs x (List.mem_cons_self ..))
    have h1 := List.nodup_cons.1 hn
    have h2 := nodup_sub l (a ++ b) h1.2 fun y hy => by
      have h3 := hs y (List.mem_cons_of_mem _ hy)
      have hne : y ≠ x := fun e => h1.1 (by rw [← e]; exact hy)
      rcases List.mem_append.1 h3 with h4 | h4
      · exact List.mem_append.2 (.inl h4)
      · rcases List.mem_cons.1 h4 with h5 | h5
        · exact absurd h5 hne
        · exact List.mem_append.2 (.inr h5)
    simp only [List.length_cons, List.length_append] at h2 ⊢
    omega
/-- All shelves full: as many keys as shelves, and none of them is the one that is looked for. -/
theorem full_keys {c : PCfg} (hc : c.Right) {tx : Nat → Option ByteArray} {st : Nat → List PVersion} {e : Int} {m : List (ByteArray × ByteArray)} (h : Know c tx st e m) {key : ByteArray} (hl : LookIs c key tx 3 0) {KL : List ByteArray} (hk : key ∈ KL) (ht : ∀ p t, tx p = some t → t ∈ KL) : c.shelves < (KL.length : Int) := by
  have hsh := hc.shelves
  have hfull : ∀ j : Nat, (j : Int) < c.shelves → ∃ t, tx j = some t := fun j hj => by
    rcases look_kind (key := key) (pl := plN c key) (tx := tx) c.shelves.toNat 0 with ⟨h1, _⟩ | h1 | ⟨_, _, h1⟩
    · rw [hl.1] at h1; cases h1
    · rw [hl.1] at h1; cases h1
    · obtain ⟨i, hi, hij⟩ := pl_cover hc key j hj
      have := h1 i (by omega)
      rwa [Nat.zero_add, hij] at this
  have hno : ∀ q, tx q ≠ some key := fun q hq => by have := (h.at_ q key hq).1; rw [hl.1] at this; cases this
  have hnd : (key :: (List.range c.shelves.toNat).map fun j => (tx j).getD ByteArray.empty).Nodup := by
    rw [List.nodup_cons]
    refine ⟨fun hm => ?_, ?_⟩
    · obtain ⟨j, hj1, hj2⟩ := List.mem_map.1 hm
      rw [List.mem_range] at hj1
      obtain ⟨t, ht⟩ := hfull j (by omega)
      rw [ht] at hj2
      exact hno j (by rw [ht, ← hj2]; rfl)
    · unfold List.Nodup
      rw [List.pairwise_map]
      refine List.Pairwise.imp_of_mem (fun {a b} ha hb hne heq => ?_) (List.nodup_range (n := c.shelves.toNat))
      rw [List.mem_range] at ha hb
      obtain ⟨t, hta⟩ := hfull a (by omega)
      obtain ⟨u, htb⟩ := hfull b (by omega)
      rw [hta, htb] at heq
      have heq : t = u := heq
      subst heq
      have h1 := (h.at_ a t hta).2
      have h2 := (h.at_ b t htb).2
      rw [h1] at h2
      omega
  have h1 := nodup_sub _ KL hnd fun x hx => by
    rcases List.mem_cons.1 hx with rfl | hx
    · exact hk
    · obtain ⟨j, hj1, hj2⟩ := List.mem_map.1 hx
      rw [List.mem_range] at hj1
      obtain ⟨t, htj⟩ := hfull j (by omega)
      rw [htj] at hj2
      have hj2 : t = x := hj2
      subst hj2
      exact ht j t htj
  simp only [List.length_cons, List.length_map, List.length_range] at h1
  omega
/-- The pairs behind a row of changes. -/
def patchP (m : List (ByteArray × ByteArray)) (l : List PChange) : List (ByteArray × ByteArray) := l.foldl (fun m ch => nextP m ch true) m
theorem patchP_snoc (m : List (ByteArray × ByteArray)) (l : List PChange) (ch : PChange) : patchP m (l ++ [ch]) = nextP (patchP m l) ch true := by
  unfold patchP
  rw [List.foldl_append]
  rfl
/-- What is known between two changes, or between a version and its key. -/
def MidK (c : PCfg) (ep : Int) (m : List (ByteArray × ByteArray)) (d : Nat) (l : List PChange) (half : Option Nat) (n : Int) (tx : Nat → Option ByteArray) (st : Nat → List PVersion) : Prop := match half with
  | none => n = d ∧ Know c tx st ep m
  | some p => n = d + 1 ∧ ∃ st0 b ch l', l = ch :: l' ∧ st = putS st0 p ⟨b, ep, ch.has, ch.value⟩ ∧ Know c tx st0 ep m
/-- What holds while a row of changes is laid over known pairs. -/
structure JK (c : PCfg) (B : Nat) (ep : Int) (m0 : List (ByteArray × ByteArray)) (row : List PChange) (KL : List ByteArray) (l : List PChange) (half : Option Nat) (n : Int) (tx : Nat → Option ByteArray) (st : Nat → List PVersion) : Prop where
  ex : ∃ done, row = done ++ l ∧ MidK c ep (patchP m0 done) done.length l half n tx st
  keys : ∀ p t, tx p = some t → t ∈ KL
  epo : ∀ p, ∀ v ∈ st p, v.epoch ≤ ep
  len : ∀ j, (st j).length + l.length ≤ B + (if half.isSome then 1 else 0)
theorem putS_epo {st : Nat → List PVersion} {ep : Int} (h : ∀ p, ∀ v ∈ st p, v.epoch ≤ ep) (p : Nat) (v : PVersion) (hv : v.epoch ≤ ep) : ∀ q, ∀ y ∈ putS st p v q, y.epoch ≤ ep := fun q y hy => by
  unfold putS at hy
  split at hy
  · rcases List.mem_cons.1 hy with rfl | hy
    · exact hv
    · exact h q y hy
  · exact h q y hy
theorem jk_law (c : PCfg) (hc : c.Right) (B : Nat) (ep : Int) (m0 : List (ByteArray × ByteArray)) (row : List PChange) (KL : List ByteArray) (hKL : (KL.length : Int) ≤ c.shelves) (hrow : ∀ ch ∈ row, ch.key ∈ KL) : LawJ c ep (JK c B ep m0 row KL) where
  one := fun {ch l n tx st p} b hj htx _ => by
    obtain ⟨done, e1, hn, hk⟩ := hj.ex
    refine ⟨⟨done ++ [ch], by rw [e1]; simp, by show n + 1 = _; rw [hn]; simp, ?_⟩, hj.keys, putS_epo hj.epo p _ (Int.le_refl _), fun j => ?_⟩
    · show Know c tx _ ep _
      rw [patchP_snoc]
      refine hk.push htx b ep ch.has fun t => ?_
      rw [nextP_get]
      simp
    · have h1 := hj.len j
      have h2 := putS_len st p ⟨b, ep, ch.has, ch.value⟩ j
      simp at h1 ⊢
      omega
  two := fun {ch l n tx st p} b hj htx _ => by
    obtain ⟨done, e1, hn, hk⟩ := hj.ex
    refine ⟨⟨done, e1, by show n + 1 = _; rw [hn], st, b, ch, l, rfl, rfl, hk⟩, hj.keys, putS_epo hj.epo p _ (Int.le_refl _), fun j => ?_⟩
    have h1 := hj.len j
    have h2 := putS_len st p ⟨b, ep, ch.has, ch.value⟩ j
    simp at h1 ⊢
    omega
  name := fun {ch l n tx st p} hj htx hl => by
    obtain ⟨done, e1, hn, st0, b, ch', l', e2, e3, hk⟩ := hj.ex
    obtain ⟨rfl, rfl⟩ : ch' = ch ∧ l' = l := by
      injection e2 with e2 e4
      exact ⟨e2.symm, e4.symm⟩
    refine ⟨⟨done ++ [ch'], by rw [e1]; simp, by show n = _; rw [hn]; simp, ?_⟩, fun q t hq => ?_, hj.epo, fun j => ?_⟩
    · show Know c _ st ep _
      rw [patchP_snoc, e3]
      refine (hk.put hl.1 hl.2 htx).push (by unfold putT; rw [if_pos rfl]) b ep ch'.has fun t => ?_
      rw [nextP_get]
      simp
    · unfold putT at hq
      split at hq
      · injection hq with hq
        rw [← hq]
        exact hrow ch' (by rw [e1]; simp)
      · exact hj.keys q t hq
    · have h1 := hj.len j
      simp at h1 ⊢
      omega
  full := fun {ch l n tx st} hj hl => by
    exfalso
    obtain ⟨done, e1, hn, hk⟩ := hj.ex
    have := full_keys hc hk hl (hrow ch (by rw [e1]; simp)) hj.keys
    omega
theorem readV_top {e e' : Int} (hle : e ≤ e') : ∀ (l : List PVersion), (∀ v ∈ l, v.epoch ≤ e) → readV e' l 0 = readV e l 0
  | [], _ => rfl
  | v :: l, h => by
    have h1 := h v (List.mem_cons_self ..)
    unfold readV
    rw [if_neg (show ¬ e' < v.epoch by omega), if_neg (show ¬ e < v.epoch by omega)]
/-- The start: what was known at the epoch before is known at the next one. -/
theorem JK.start {c : PCfg} {B B0 : Nat} {ep : Int} {m : List (ByteArray × ByteArray)} {row : List PChange} {KL : List ByteArray} {tx : Nat → Option ByteArray} {st : Nat → List PVersion} (hk : Know c tx st ep m) (hkeys : ∀ p t, tx p = some t → t ∈ KL) (he : ∀ p, ∀ v ∈ st p, v.epoch ≤ ep) (hl : ∀ j, (st j).length ≤ B0) (hB : B0 + row.length ≤ B) : JK c B (ep + 1) m row KL row none 0 tx st :=
  ⟨⟨[], rfl, rfl, ⟨hk.at_, hk.free, fun p t hp => by rw [readV_top (by omega) (st p) (he p)]; exact hk.told p t hp, hk.none_⟩⟩, hkeys, fun p v hv => by have := he p v hv; omega, fun j => by have := hl j; simp; omega⟩
theorem JK.fin {c : PCfg} {B : Nat} {ep : Int} {m : List (ByteArray × ByteArray)} {row : List PChange} {KL : List ByteArray} {n : Int} {tx : Nat → Option ByteArray} {st : Nat → List PVersion} (h : JK c B ep m row KL [] none n tx st) : n = row.length ∧ Know c tx st ep (patchP m row) ∧ ∀ j, (st j).length ≤ B := by
  obtain ⟨done, e1, hn, hk⟩ := h.ex
  rw [List.append_nil] at e1
  subst e1
  exact ⟨hn, hk, fun j => by have := h.len j; simpa using this⟩
end Go.Proofs.YtmlnhjfdhjachaaGreat

/-
  The bound of a read's acts: the program's, the document's; a routine of the call's own goes alone on a heap of the call's own. No condition.
-/
namespace Go.Proofs.YtmlnhjfdhjachaaGreat
set_option linter.unusedVariables false
open Go.ChangeShapes Go.WideShapes Go.ChangeAt Go.RowKit
open Go.ChangeMaps (setBlock)

/-- A routine of the call's own goes alone: the heap, and what it leaves alone. -/
theorem ralone {σ : Type} (Rt : Rout σ) {w0 w : World} {hb b B : Nat} {S : PHeap} {s : σ} {F : Nat → Prop} {K : List (Nat × Obj)} (o : OwnK w0 hb S F K w) (hR : RAt Rt B w b s) (hFB : ∀ k, F k → k < B) (hKB : ∀ x ∈ K, x.1 < B) (hB : w0.heap.size ≤ B)
    (hf : S.faults ≤ 1000000000) (hla : S.last ≤ 1000000000) (most : Int) (hm : most ≤ 1000000) :
    Calls Tryz.prog 20 #[.pointer (some ⟨hb, 0, none⟩), .iface Rt.T (.pointer (some ⟨b, 0, none⟩)), .int .i64 most] w fun e w' => ∃ xs S' s' F' D', Runs Rt S s xs S' s' ∧ (most ≤ (xs.length : Nat) ∨ Rt.can S' s' = false) ∧
      e = .returned (.tuple #[.int .i64 (xs.length : Nat), .bool (!(Rt.act s').2)]) ∧ OwnK w0 hb S' F' K w' ∧ Rt.R w' D' b s' ∧ Off F' D' := by
  obtain ⟨D, hRD, hD⟩ := hR
  refine (alone_own Rt o.own hRD (fun k h1 h2 => by have := hFB k h1; have := hD k h2; omega) (fun k hk => Nat.le_trans hB (hD k hk)) hf hla most hm).mono ?_
  rintro e w' ⟨xs, S', s', F', D', h1, h2, _, h3, o', h4, h5, h6, h7⟩
  refine ⟨xs, S', s', F', D', h1, h2, h3, ⟨o', fun x hx => ?_⟩, h4, h7⟩
  have hxB := hKB x hx
  have hk := o.keep x hx
  have hlt := o.lt hx
  refine ⟨(h6.block _ hlt fun h => ?_).trans hk.1, fun h => ?_⟩
  · rcases h with h | h
    · exact hk.2 h
    · have := hD _ h; omega
  · rcases h5 _ (.inl h) with h8 | h8 | h8
    · exact hk.2 h8
    · have := hD _ h8; omega
    · omega
end Go.Proofs.YtmlnhjfdhjachaaGreat

/-
  The examples of the law of reading (layer 26). No condition.
-/
namespace Go.Proofs.YtmlnhjfdhjachaaGreat
set_option linter.unusedVariables false
open Go.ChangeShapes Go.WideShapes Go.ChangeAt Go.RowKit
open Go.ChangeMaps (setBlock)

theorem tinyVR : tinyC.val = .agg #[.int .i64 2, .int .i64 2, .int .i64 3, .int .i64 2, .int .i64 1, .int .u64 0] := rfl
def kText : ByteArray := ⟨#[107]⟩
theorem fresh_look (c : PCfg) (hc : c.Right) (key : ByteArray) : lookP key (plN c key) (fun _ => none) c.shelves.toNat 0 = (2, ((plN c key 0 : Nat) : Int), 1) := by
  have h := hc.shelves
  obtain ⟨d, hd⟩ : ∃ d, c.shelves.toNat = d + 1 := ⟨c.shelves.toNat - 1, by omega⟩
  rw [hd]
  rfl
end Go.Proofs.YtmlnhjfdhjachaaGreat

/-
  Two answers that are alike, with pairs (layers 6 and 16). No condition.
-/
namespace Go.Proofs.YtmlnhjfdhjachaaGreat
set_option linter.unusedVariables false
open Go.ChangeShapes Go.WideShapes Go.ChangeAt Go.RowKit
open Go.ChangeMaps (setBlock)

structure SameRel (w : World) (n : Nat) (iv : Value) (wr : World) : Prop where
  ex : ∃ k : Nat, k ≤ n ∧ iv = .int .i64 k
  below : Below w.heap.size w wr
set_option maxRecDepth 100000 in
set_option maxHeartbeats 2000000 in
theorem same06_any {w : World} {A A' : Option Addr} {n cap cap' : Nat} {m : List (ByteArray × ByteArray)} (hlen : m.length = n) (hn : n ≤ 1000) (hr : Reads w w.heap.size 2 A n (pairL m)) (hr' : Reads w w.heap.size 2 A' n (pairL m)) :
    Calls Tryz.prog 29 #[.slice A n cap, .slice A' n cap'] w fun e w' => e = .returned (.bool true) ∧ Below w.heap.size w w' := by
  replace hr := Lib.hid hr
  replace hr' := Lib.hid hr'
  replace hlen := Lib.hid hlen
  go_enter Tryz.func29, Tryz.ntmps29
  go_wp2_with fail
  go_loopw [5] (fun iv wr => SameRel w n iv wr) (fun i _ => n + 1 - (intOf i).toNat)
  case atStart => exact ⟨⟨0, Nat.zero_le _, rfl⟩, Below.refl _ _⟩
  case round =>
    obtain ⟨⟨k, hk, rfl⟩, hbl⟩ := hrel
    by_cases hlt : k < n
    · have d2 : decide ((k : Int) < (n : Int)) = true := by simpa using hlt
      obtain ⟨ad, p, rfl, hp, r0, r1⟩ := pair_at hr.out hbl hlt hlen.out
      obtain ⟨ad', p', rfl, hp', s0, s1⟩ := pair_at hr'.out hbl hlt hlen.out
      obtain rfl : p' = p := by rw [hp] at hp'; injection hp' with hp'; exact hp'.symm
      have i1 : (0 : Int) ≤ (k : Int) := by omega
      have i2 : (k : Int) < (n : Int) := by omega
      have hl63 : (k : Int) + 1 ≤ 9223372036854775807 := by omega
      have r1' : wr.cell? ⟨(ad.add (k * 2)).block, (ad.add (k * 2)).off + 1, none⟩ = some (.string p'.2) := by
        have e : (⟨(ad.add (k * 2)).block, (ad.add (k * 2)).off + 1, none⟩ : Addr) = (ad.add (k * 2)).add 1 := rfl
        rw [e, add_of_add]
        exact r1
      have s1' : wr.cell? ⟨(ad'.add (k * 2)).block, (ad'.add (k * 2)).off + 1, none⟩ = some (.string p'.2) := by
        have e : (⟨(ad'.add (k * 2)).block, (ad'.add (k * 2)).off + 1, none⟩ : Addr) = (ad'.add (k * 2)).add 1 := rfl
        rw [e, add_of_add]
        exact s1
      obtain ⟨pk, pv⟩ := p'
      simp only at r0 r1' s0 s1'
      clear r1 s1 hp'
      replace hp := Lib.hid hp
      replace hbl := Lib.hid hbl
      go_wp2_with fail
      go_quiet (fail)
      go_wp2_with fail
      go_roundw
      case rel => exact ⟨⟨k + 1, by omega, by go_num⟩, below_drewN hbl.out _⟩
      case measure => simp [intOf]; omega
    · have d2 : decide ((k : Int) < (n : Int)) = false := by simpa using hlt
      go_wp2_with fail
      go_ret
      exact ⟨rfl, hbl⟩
end Go.Proofs.YtmlnhjfdhjachaaGreat

/-
  The examples of the law of viewing (layer 27). No condition.
-/
namespace Go.Proofs.YtmlnhjfdhjachaaGreat
set_option linter.unusedVariables false
open Go.ChangeShapes Go.WideShapes Go.ChangeAt Go.RowKit
open Go.ChangeMaps (setBlock)

def vText : ByteArray := ⟨#[118]⟩
end Go.Proofs.YtmlnhjfdhjachaaGreat

/-
  Two routines beside a heap of the call's own, and blocks that all leave alone. No condition.
-/
namespace Go.Proofs.YtmlnhjfdhjachaaGreat
set_option linter.unusedVariables false
open Go.ChangeShapes Go.WideShapes Go.ChangeAt Go.RowKit
open Go.ChangeMaps (setBlock)

structure Two {σ τ : Type} (R1 : Rout σ) (R2 : Rout τ) (w0 : World) (hb : Nat) (S : PHeap) (F : Nat → Prop) (K : List (Nat × Obj)) (b1 : Nat) (s1 : σ) (b2 : Nat) (s2 : τ) (w : World) : Prop where
  own : OwnK w0 hb S F K w
  rt : ∃ D1 D2, R1.R w D1 b1 s1 ∧ R2.R w D2 b2 s2 ∧ Off F D1 ∧ Off F D2 ∧ (∀ k, D1 k → ¬ D2 k) ∧ (∀ k, D1 k ∨ D2 k → w0.heap.size ≤ k) ∧ ∀ x ∈ K, ¬ D1 x.1 ∧ ¬ D2 x.1
section
variable {σ τ : Type} {R1 : Rout σ} {R2 : Rout τ} {w0 w w' : World} {hb b1 b2 : Nat} {S : PHeap} {F : Nat → Prop} {K : List (Nat × Obj)} {s1 : σ} {s2 : τ}
theorem Two.below (h : Two R1 R2 w0 hb S F K b1 s1 b2 s2 w) (hb' : Below w.heap.size w w') : Two R1 R2 w0 hb S F K b1 s1 b2 s2 w' := by
  obtain ⟨D1, D2, h1, h2, h3, h4, h5, h6, h7⟩ := h.rt
  exact ⟨h.own.below hb', D1, D2, R1.below h1 hb', R2.below h2 hb', h3, h4, h5, h6, h7⟩
theorem Two.add (h : Two R1 R2 w0 hb S F K b1 s1 b2 s2 w) (o : Obj) : Two R1 R2 w0 hb S F ((w.heap.size, o) :: K) b1 s1 b2 s2 (w.alloc o) := by
  obtain ⟨D1, D2, h1, h2, h3, h4, h5, h6, h7⟩ := h.rt
  refine ⟨h.own.add o, D1, D2, R1.below h1 (Below.more_ (Below.refl _ _) o), R2.below h2 (Below.more_ (Below.refl _ _) o), h3, h4, h5, h6, fun x hx => ?_⟩
  rcases List.mem_cons.1 hx with rfl | hx
  · exact ⟨fun hD => by have := R1.own h1 _ hD; simp only at this; omega, fun hD => by have := R2.own h2 _ hD; simp only at this; omega⟩
  · exact h7 x hx
/-- The second one was made behind the first one. -/
theorem Two.start {B : Nat} {w5 : World} (o : OwnK w0 hb S F K w) (hFB : ∀ k, F k → k < B) (hKB : ∀ x ∈ K, x.1 < B) (hB : w0.heap.size ≤ B) (h1 : RAt R1 B w5 b1 s1) (h5 : B ≤ w5.heap.size) (hbl : Below w5.heap.size w5 w) (h2 : RAt R2 w5.heap.size w b2 s2) : Two R1 R2 w0 hb S F K b1 s1 b2 s2 w := by
  obtain ⟨D1, k1, k2⟩ := h1
  obtain ⟨D2, j1, j2⟩ := h2
  refine ⟨o, D1, D2, R1.below k1 hbl, j1, fun k hF hD => by have := hFB k hF; have := k2 k hD; omega, fun k hF hD => by have := hFB k hF; have := j2 k hD; omega, fun k h1 h2 => by have := R1.own k1 k h1; have := j2 k h2; omega, fun k hk => ?_, fun x hx => ⟨fun hD => by have := hKB x hx; have := k2 _ hD; omega, fun hD => by have := hKB x hx; have := j2 _ hD; omega⟩⟩
  rcases hk with hk | hk
  · have := k2 k hk; omega
  · have := j2 k hk; omega
end
end Go.Proofs.YtmlnhjfdhjachaaGreat

/-
  A routine beside a heap of the call's own, and blocks that both leave alone. No condition.
-/
namespace Go.Proofs.YtmlnhjfdhjachaaGreat
set_option linter.unusedVariables false
open Go.ChangeShapes Go.WideShapes Go.ChangeAt Go.RowKit
open Go.ChangeMaps (setBlock)

structure Duo {σ : Type} (Rt : Rout σ) (w0 : World) (hb : Nat) (S : PHeap) (F : Nat → Prop) (K : List (Nat × Obj)) (b : Nat) (s : σ) (w : World) : Prop where
  own : OwnK w0 hb S F K w
  rt : ∃ D, Rt.R w D b s ∧ Off F D ∧ (∀ k, D k → w0.heap.size ≤ k) ∧ ∀ x ∈ K, ¬ D x.1
section
variable {σ : Type} {Rt : Rout σ} {w0 w w' : World} {hb b : Nat} {S : PHeap} {F : Nat → Prop} {K : List (Nat × Obj)} {s : σ}
theorem Duo.below (h : Duo Rt w0 hb S F K b s w) (hb' : Below w.heap.size w w') : Duo Rt w0 hb S F K b s w' := by
  obtain ⟨D, h1, h2, h3, h4⟩ := h.rt
  exact ⟨h.own.below hb', D, Rt.below h1 hb', h2, h3, h4⟩
theorem Duo.drew (h : Duo Rt w0 hb S F K b s w) : Duo Rt w0 hb S F K b s w.drew := h.below (Below.refl _ _).drew
theorem Duo.drewN (h : Duo Rt w0 hb S F K b s w) (n : Nat) : Duo Rt w0 hb S F K b s (w.drewN n) := h.below (below_drewN (Below.refl _ _) n)
theorem Duo.add (h : Duo Rt w0 hb S F K b s w) (o : Obj) : Duo Rt w0 hb S F ((w.heap.size, o) :: K) b s (w.alloc o) := by
  obtain ⟨D, h1, h2, h3, h4⟩ := (h.below (Below.more_ (Below.refl _ _) o)).rt
  obtain ⟨D, h1, h2, h3, h4⟩ := h.rt
  refine ⟨h.own.add o, D, Rt.below h1 (Below.more_ (Below.refl _ _) o), h2, h3, fun x hx => ?_⟩
  rcases List.mem_cons.1 hx with rfl | hx
  · exact fun hD => by have := Rt.own h1 _ hD; simp only at this; omega
  · exact h4 x hx
/-- The first one: a routine of the call's own, behind the heap and the blocks. -/
theorem Duo.start {B : Nat} (o : OwnK w0 hb S F K w) (hR : RAt Rt B w b s) (hFB : ∀ k, F k → k < B) (hKB : ∀ x ∈ K, x.1 < B) (hB : w0.heap.size ≤ B) : Duo Rt w0 hb S F K b s w := by
  obtain ⟨D, h1, h2⟩ := hR
  exact ⟨o, D, h1, fun k hF hD => by have := hFB k hF; have := h2 k hD; omega, fun k hD => Nat.le_trans hB (h2 k hD), fun x hx hD => by have := hKB x hx; have := h2 _ hD; omega⟩
end
end Go.Proofs.YtmlnhjfdhjachaaGreat
