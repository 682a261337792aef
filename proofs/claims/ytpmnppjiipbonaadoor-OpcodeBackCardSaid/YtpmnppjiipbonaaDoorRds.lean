/-
  opcode's reader, going on or failed: kind, text and guard over it. No condition.
-/
import Derived.Test.YtpmnppjiipbonaaDoorRdr
namespace Go.Proofs.YtpmnppjiipbonaaDoor
set_option linter.unusedVariables false
open Go.RowKit Go.Extern.Stop Go.Stop Go.Extern Go.ChangeShapes

/-- A reader that goes on at a place, or has failed with a code at a place. -/
def RS (w : World) (rb : Nat) (s : ByteArray) (sv : Nat → Addr) : Except (Int × Int) Int → Prop
  | .ok p => Rd w rb s p .nilIface
  | .error e => ∃ q v, Rd w rb s q v ∧ ErrIs w sv v [e.2] (sIdx e.1)
theorem err_stays {w w' : World} {sv : Nat → Addr} (hk : ∀ b cs, Blk w b 111 cs → Blk w' b 111 cs) : ∀ {ps : List Int} {v : Value} {i : Nat}, ErrIs w sv v ps i → ErrIs w' sv v ps i
  | [], _, _, h => h
  | _ :: _, _, _, ⟨b, u', h, hB, k⟩ => ⟨b, u', h, hk _ _ hB, err_stays hk k⟩
theorem RS.keep {w w' : World} {rb : Nat} {s : ByteArray} {sv : Nat → Addr} {r : Except (Int × Int) Int} (h : RS w rb s sv r) (hk : ∀ b t cs, t = 101 ∨ t = 111 → Blk w b t cs → Blk w' b t cs) : RS w' rb s sv r := by
  cases r with
  | ok p => exact hk _ _ _ (.inl rfl) h
  | error e =>
    obtain ⟨q, v, h1, h2⟩ := h
    exact ⟨q, v, hk _ _ _ (.inl rfl) h1, err_stays (fun b cs hb => hk b _ cs (.inr rfl) hb) h2⟩
theorem RS.rd {w : World} {rb : Nat} {s : ByteArray} {sv : Nat → Addr} {r : Except (Int × Int) Int} (h : RS w rb s sv r) : ∃ q v, Rd w rb s q v := by
  cases r with
  | ok p => exact ⟨_, _, h⟩
  | error e => obtain ⟨q, v, h1, _⟩ := h; exact ⟨q, v, h1⟩
theorem RS.below {w w' : World} {rb : Nat} {s : ByteArray} {sv : Nat → Addr} {r : Except (Int × Int) Int} (h : RS w rb s sv r) (hb : Below w.heap.size w w') : RS w' rb s sv r := h.keep fun b _ _ _ hB => hB.below hb hB.lt
/-- Behind a text. -/
def thenT (s : ByteArray) (m : Int) : Except (Int × Int) Int → Except (Int × Int) Int
  | .error e => .error e
  | .ok p => if (tkt s p m).2.2 ≠ 0 then .error ((tkt s p m).2.2, p) else .ok (tkt s p m).2.1
def thenI (s : ByteArray) : Except (Int × Int) Int → Except (Int × Int) Int
  | .error e => .error e
  | .ok p => if (tki s p).2.2 ≠ 0 then .error ((tki s p).2.2, p) else .ok (tki s p).2.1
def ofKind (s : ByteArray) (p : Int) (m : Nat) : Except (Int × Int) Int := match knd s p m with
  | .error c => .error (c, p)
  | .ok x => .ok x.2
theorem text_rs {w : World} {sv : Nat → Addr} (S : Sent w sv) (rb : Nat) (s : ByteArray) (m : Int) (r : Except (Int × Int) Int) (hs : s.size ≤ 1000000) (hm : m ≤ 1000000) (h : RS w rb s sv r) :
    Calls Tryd.prog 81 #[.pointer (some ⟨rb, 0, none⟩), .int .i64 m] w fun e w' => ∃ x, e = .returned (.string x) ∧ RS w' rb s sv (thenT s m r) ∧ (∀ p, r = .ok p → (tkt s p m).2.2 = 0 → x = (tkt s p m).1) ∧ Chg (fun k => k = rb) w w' := by
  cases r with
  | ok p =>
    refine (rdText_any S rb s p m hs hm h).mono ?_
    rintro e w' ⟨x, rfl, ho, hc⟩
    refine ⟨x, rfl, ?_, fun p' hp h0 => ?_, hc⟩
    · unfold thenT
      rcases ho with ⟨h0, _, hR⟩ | ⟨h0, q, v, hR, hv⟩
      · simp only
        rw [if_neg (by simpa using h0)]
        exact hR
      · simp only
        rw [if_pos h0]
        exact ⟨q, v, hR, hv⟩
    · injection hp with hp
      subst hp
      rcases ho with ⟨_, hx, _⟩ | ⟨h1, _⟩
      · exact hx
      · exact absurd h0 h1
  | error e =>
    obtain ⟨q, v, h1, h2⟩ := h
    obtain ⟨t, u, rfl⟩ := h2.iface
    refine (text_err rb s q t u m h1).mono ?_
    rintro e' w' ⟨rfl, rfl⟩
    exact ⟨_, rfl, ⟨q, _, h1, h2⟩, fun p hp => (by cases hp), Chg.refl _ _⟩
theorem kind_rs {w : World} {sv : Nat → Addr} (S : Sent w sv) (rb : Nat) (s : ByteArray) (p : Int) (m : Nat) (hs : s.size ≤ 1000000) (hm : m ≤ 1000000) (h : Rd w rb s p .nilIface) :
    Calls Tryd.prog 80 #[.pointer (some ⟨rb, 0, none⟩), .int .i64 m] w fun e w' => ∃ n : Nat, e = .returned (.int .i64 n) ∧ n ≤ m ∧ RS w' rb s sv (ofKind s p m) ∧ (∀ x, knd s p m = .ok x → n = x.1) ∧ (∀ c, knd s p m = .error c → n = 0) ∧ Chg (fun k => k = rb) w w' := by
  refine (kind_any S rb s p m hs hm h).mono ?_
  rintro e w' ⟨n, rfl, ho, hc⟩
  unfold ofKind
  have hle : ∀ x, knd s p m = .ok x → x.1 ≤ m := by
    intro x hx
    unfold knd at hx
    split at hx
    · cases hx
    · split at hx
      · cases hx
      · injection hx with hx
        subst hx
        simp only
        omega
  cases hk : knd s p m with
  | ok x =>
    rw [hk] at ho
    obtain ⟨h1, h2⟩ := ho
    exact ⟨x.1, by rw [h1], hle x hk, h2, fun y hy => by injection hy with hy; rw [hy], fun c hc => (by cases hc), hc⟩
  | error c =>
    rw [hk] at ho
    obtain ⟨h1, q, v, h2, h3⟩ := ho
    exact ⟨0, by rw [h1]; rfl, Nat.zero_le _, ⟨q, v, h2, h3⟩, fun y hy => (by cases hy), fun _ _ => rfl, hc⟩
theorem infoGd : (Tryd.prog.info? 90).map (fun i => (i.zero, i.size, i.bytes)) = some (some (.agg #[.int .i64 0, .string ⟨#[]⟩, .string ⟨#[]⟩]), 3, 40) := by kernel_rfl
theorem infoSt : (Tryd.prog.info? 92).map (fun i => (i.zero, i.size, i.bytes)) = some (some (.agg #[.int .i64 0, .string ⟨#[]⟩, .string ⟨#[]⟩, .string ⟨#[]⟩, .int .i64 0]), 5, 64) := by kernel_rfl
theorem readsN (W : World) (t : TypeId) (cs : Array Value) (size : Nat) (h : cs.size = 1 * size) : Reads (W.alloc (.cells cs t)) (W.heap.size + 1) size (some ⟨W.heap.size, 0, none⟩) 1 cs.toList := by
  refine ⟨by simpa using h, fun _ => ⟨_, rfl, Nat.lt_succ_self _, fun j u hu => ?_⟩⟩
  have e : (⟨W.heap.size, 0, none⟩ : Addr).add j = ⟨W.heap.size, j, none⟩ := by unfold Addr.add; split <;> simp_all
  rw [e, (Blk.new W t cs).cell j]
  simpa using hu
theorem ownSucc {w : World} {base : Nat} {e : TypeId} {size n : Nat} {v : Value} {xs : List Value} (h : w.ownsRow base e size v (n + 1) xs) : ∃ g c, v = .slice (some ⟨g, 0, none⟩) (n + 1) c := by
  rcases h.2 with ⟨_, h0⟩ | ⟨g, cap, cur, rfl, _⟩
  · omega
  · exact ⟨g, cap, rfl⟩
theorem ownKeep {w w' : World} {base : Nat} {e : TypeId} {size : Nat} {v : Value} {n : Nat} {xs : List Value} (h : w.ownsRow base e size v n xs) (hk : ∀ g, v.ownBlock = some g → w'.heap[g]? = w.heap[g]?) : w'.ownsRow base e size v n xs := by
  refine ⟨h.1, h.2.imp id ?_⟩
  rintro ⟨g, cap, cur, rfl, e2, e3, e4⟩
  exact ⟨g, cap, cur, rfl, e2, (hk g rfl).trans e3, e4⟩
/-- What a part's reader has left: the part behind the row, its op's block else as it was. -/
structure PtOut (w w' : World) (rb ob B : Nat) (s : ByteArray) (sv : Nat → Addr) (te : TypeId) (size : Nat) (v : Value) (n : Nat) (xs cs : List Value) (mk : Value → Array Value) (r : Except (Int × Int) Int) : Prop where
  rs : RS w' rb s sv r
  op : ∃ v', Blk w' ob 44 (mk v') ∧ w'.ownsRow B te size v' (n + 1) (xs ++ cs) ∧ ∀ g, v'.ownBlock = some g → v.ownBlock = some g ∨ w.heap.size ≤ g
  chg : Chg (fun k => k = rb ∨ k = ob ∨ v.ownBlock = some k) w w'
end Go.Proofs.YtpmnppjiipbonaaDoor
