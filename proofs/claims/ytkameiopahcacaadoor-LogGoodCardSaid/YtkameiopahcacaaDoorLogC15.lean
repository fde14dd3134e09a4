/- The log and its disk, call by call: what a call answers and leaves, both in new memory. Condition: as said. -/
import Derived.Test.YtkameiopahcacaaDoorLogB15
import Derived.Test.YtkameiopahcacaaDoorRows15
set_option linter.unusedVariables false
set_option linter.unusedSimpArgs false
set_option maxRecDepth 100000
namespace Go.Proofs.YtkameiopahcacaaDoor
open Go.RowKit Go.Shelf

/-- A log: where it ends, the last check, the next number. -/
structure Lg where
  at_ : Nat
  sum : Nat
  next : Nat
def IsLg (w : World) (g dg : Nat) (l : Lg) : Prop := IsLog w g dg l.at_ l.sum l.next
structure Lg.ok (l : Lg) (d : Dsk) : Prop where
  at_ : l.at_ ≤ d.b.length
  sum : l.sum < 4294967296
  next : l.next < 4294967296
/-- Append: what is answered, the log and the disk behind. -/
def Lg.app (l : Lg) (d : Dsk) (x : List Int) : (Nat × Int) × Lg × Dsk :=
  if 65535 < x.length then ((0, 3), l, d)
  else if (d.put l.at_ (frameN l.next (checkN l.sum l.next x) x)).1 = 0 then
    ((l.next, 0), ⟨l.at_ + 10 + x.length, checkN l.sum l.next x, (l.next + 1) % 4294967296⟩, (d.put l.at_ (frameN l.next (checkN l.sum l.next x) x)).2)
  else ((0, (d.put l.at_ (frameN l.next (checkN l.sum l.next x) x)).1), l, (d.put l.at_ (frameN l.next (checkN l.sum l.next x) x)).2)
/-- The log that stands in bytes. -/
def recG (b : List Int) : Lg := ⟨(recE b).fin, (recE b).sum, ((recE b).num + 1) % 4294967296⟩

theorem crcN_lt (l : List Int) : crcN l < 4294967296 := by unfold crcN; omega
theorem checkN_lt (a n : Nat) (x : List Int) : checkN a n x < 4294967296 := crcN_lt _
theorem isB_app2 {a b : List Int} (ha : IsB a) (hb : IsB b) : IsB (a ++ b) := fun c hc => by
  rcases List.mem_append.1 hc with h | h
  · exact ha c h
  · exact hb c h
theorem layB_isB {b x : List Int} {at_ : Nat} (hb : IsB b) (hx : IsB x) : IsB (layB b at_ x) :=
  isB_app2 (fun c hc => hb c (List.mem_of_mem_take hc)) (isB_app2 hx (fun c hc => hb c (List.mem_of_mem_drop hc)))
theorem Dsk.put_isB {d : Dsk} {at_ : Int} {x : List Int} (hb : IsB d.b) (hx : IsB x) : IsB (d.put at_ x).2.b := by
  unfold Dsk.put
  split
  · exact hb
  split
  · exact hb
  split
  · exact hb
  split
  · exact layB_isB hb (fun c hc => hx c (List.mem_of_mem_take hc))
  · exact layB_isB hb hx
theorem frameN_isB {n s : Nat} {x : List Int} (hn : n < 4294967296) (hs : s < 4294967296) (hx : IsB x) (hl : x.length ≤ 65535) : IsB (frameN n s x) :=
  isB_app2 (isB_app2 (isB_app2 (be2_isB (by omega) (by omega)) (be4_isB' (by omega) (by omega))) (be4_isB' (by omega) (by omega))) hx
theorem zeros_isB (n : Nat) : IsB (List.replicate n 0) := fun c hc => by rw [List.eq_of_mem_replicate hc]; omega
theorem Dsk.put_len {d : Dsk} {at_ : Nat} {x : List Int} (h : at_ ≤ d.b.length) : d.b.length ≤ (d.put at_ x).2.b.length ∧ ((d.put at_ x).1 = 0 → at_ + x.length ≤ (d.put at_ x).2.b.length) := by
  unfold Dsk.put
  split
  · exact ⟨Nat.le_refl _, fun h => by simp at h⟩
  split
  · exact ⟨Nat.le_refl _, fun h => by simp at h⟩
  split
  · exact ⟨Nat.le_refl _, fun h => by simp at h⟩
  split
  · refine ⟨?_, fun h => by simp at h⟩
    show d.b.length ≤ (layB d.b (at_ : Int).toNat _).length
    rw [layB_length _ _ _ (by omega)]; omega
  · constructor
    · show d.b.length ≤ (layB d.b (at_ : Int).toNat _).length
      rw [layB_length _ _ _ (by omega)]; omega
    · intro _
      show at_ + x.length ≤ (layB d.b (at_ : Int).toNat _).length
      rw [layB_length _ _ _ (by omega)]; omega
theorem Lg.app_ok {l : Lg} {d : Dsk} {x : List Int} (h : l.ok d) : (l.app d x).2.1.ok (l.app d x).2.2 := by
  have hp := Dsk.put_len (d := d) (x := frameN l.next (checkN l.sum l.next x) x) h.at_
  unfold Lg.app
  split
  · exact h
  split
  · rename_i h1
    have := hp.2 h1
    rw [frameN_length] at this
    exact ⟨by simp only; omega, checkN_lt _ _ _, by simp only; omega⟩
  · exact ⟨Nat.le_trans h.at_ hp.1, h.sum, h.next⟩
theorem Dsk.recov_isB {d : Dsk} (hb : IsB d.b) : IsB d.recov.2.b := by
  unfold Dsk.recov
  split
  · exact hb
  split
  · exact Dsk.put_isB hb (zeros_isB _)
  · exact hb
theorem Dsk.recov_ok {d : Dsk} (h : d.ok) : d.recov.2.ok := by
  unfold Dsk.recov
  split
  · exact h
  split
  · exact Dsk.put_ok h _ _
  · exact h
theorem recE_ok {b : List Int} (hb : IsB b) : (recE b).fin ≤ b.length ∧ (recE b).num < 4294967296 ∧ (recE b).sum < 4294967296 := lastF_ok hb (List.prefix_refl _)
theorem recG_ok {d : Dsk} (hb : IsB d.b) : (recG d.b).ok d.recov.2 := by
  have h := recE_ok hb
  have hl : d.b.length ≤ d.recov.2.b.length := by
    unfold Dsk.recov
    split
    · exact Nat.le_refl _
    split
    · exact (Dsk.put_len h.1).1
    · exact Nat.le_refl _
  exact ⟨Nat.le_trans h.1 hl, h.2.2, by unfold recG; simp only; omega⟩

/-- A disk that stands in memory that is new since w0. -/
structure DS (w0 W : World) (dg : Nat) (r : Option Nat) (d : Dsk) : Prop where
  kp : Kp w0 W (fun _ => False)
  hd : IsDisk W dg r d
  ok : d.ok
  by_ : IsB d.b
  dg0 : w0.heap.size ≤ dg
  r0 : New w0 r
section
variable {w0 W W' : World} {dg : Nat} {r r' : Option Nat} {d d' : Dsk}
theorem DS.quiet (h : DS w0 W dg r d) (hk : Kp W W' (fun _ => False)) : DS w0 W' dg r d := ⟨h.kp.quiet hk, h.hd.kp hk (fun h => h) (fun _ _ h => h), h.ok, h.by_, h.dg0, h.r0⟩
theorem DS.drew (h : DS w0 W dg r d) : DS w0 W.drew dg r d := ⟨h.kp.drew, h.hd, h.ok, h.by_, h.dg0, h.r0⟩
theorem DS.step {S : Nat → Prop} (h : DS w0 W dg r d) (hd : IsDisk W' dg r' d') (hf : Fr W r r') (hk : Kp W W' S) (hS : ∀ k, S k → w0.heap.size ≤ k) (ok : d'.ok) (hb : IsB d'.b) : DS w0 W' dg r' d' :=
  ⟨h.kp.trans hk (fun k hk => .inr (hS k hk)), hd, ok, hb, h.dg0, h.r0.fr h.kp.size hf⟩
theorem DS.tab (h : DS w0 W dg r d) (ht : Tab w0) : Tab W := ht.kp h.kp (fun h => h)
theorem DS.len (h : DS w0 W dg r d) : d.b.length ≤ 1048576 := by have := h.ok.len; have := h.ok.c1; omega
theorem IsLg.kp {g : Nat} {l : Lg} {S : Nat → Prop} (h : IsLg W g dg l) (hk : Kp W W' S) (hS : ¬ S g) : IsLg W' g dg l := Blk.kp h hk hS
theorem IsLg.row {g : Nat} {l : Lg} (h : IsLg W g dg l) (hd : IsDisk W dg r d) : r ≠ some g ∧ g ≠ dg := by
  obtain ⟨A, c, hb, hr⟩ := hd
  exact ⟨hr.ne_type h (by decide), Blk.ne_type h hb (by decide)⟩

theorem app_ds (ht : Tab w0) (h : DS w0 W dg r d) {g : Nat} {l : Lg} (hl : IsLg W g dg l) (hg : w0.heap.size ≤ g) (ho : l.ok d) (A : Option Addr) (n c : Nat) (x : List Int) (hx : x.length = n) (hrd : Rd W A n c (B8 x)) (hb : IsB x) :
    Calls Tryd.prog 7 #[.pointer (some ⟨g, 0, none⟩), .slice A n c] W fun e W' =>
      e = .returned (.tuple #[.int .u32 (l.app d x).1.1, .int .i64 (l.app d x).1.2]) ∧ ∃ r', DS w0 W' dg r' (l.app d x).2.2 ∧ IsLg W' g dg (l.app d x).2.1 ∧ Kp W W' (fun k => k = g ∨ k = dg ∨ r = some k) ∧ Fr W r r' := by
  by_cases hn : 65535 < n
  · have e1 : l.app d x = ((0, 3), l, d) := by unfold Lg.app; rw [if_pos (by omega)]
    rw [e1]
    refine (lappend_long W g dg l.at_ l.sum l.next hl A n c hn).mono ?_
    rintro e w1 ⟨rfl, rfl⟩
    exact ⟨rfl, r, h, hl, Kp.refl _ _, .inl rfl⟩
  · have hl1 := h.len
    refine (lappend_any W (h.tab ht) g dg r l.at_ l.sum l.next d hl h.hd h.ok (by have := ho.at_; omega) ho.sum ho.next A n c x hx hrd hb (by omega)).mono ?_
    rintro e w1 hp
    unfold AppP at hp
    dsimp only at hp
    obtain ⟨r', hd', hf', hk', hp⟩ := hp
    have hok' := Dsk.put_ok h.ok (l.at_ : Int) (frameN l.next (checkN l.sum l.next x) x)
    have hby' := Dsk.put_isB (at_ := (l.at_ : Int)) h.by_ (frameN_isB ho.next (checkN_lt l.sum l.next x) hb (by omega))
    have hS : ∀ k, (k = g ∨ k = dg ∨ r = some k) → w0.heap.size ≤ k := by
      rintro k (e | e | e)
      · omega
      · have := h.dg0; omega
      · exact h.r0 k e
    unfold Lg.app
    rw [if_neg (by omega)]
    rcases hp with ⟨h0, rfl, hl'⟩ | ⟨h0, rfl, hl'⟩
    · rw [if_neg h0]
      exact ⟨rfl, r', h.step hd' hf' hk' hS hok' hby', hl', hk', hf'⟩
    · rw [if_pos h0]
      exact ⟨rfl, r', h.step hd' hf' hk' hS hok' hby', hl', hk', hf'⟩

theorem rec_ds (ht : Tab w0) (h : DS w0 W dg r d) :
    Calls Tryd.prog 8 #[.pointer (some ⟨dg, 0, none⟩)] W fun e W' => ∃ r', DS w0 W' dg r' d.recov.2 ∧ Kp W W' (fun k => k = dg ∨ r = some k) ∧ Fr W r r' ∧
      ((d.recov.1 ≠ 0 ∧ e = .returned (.tuple #[.pointer none, .int .i64 d.recov.1])) ∨
       (d.recov.1 = 0 ∧ ∃ g, W.heap.size ≤ g ∧ e = .returned (.tuple #[.pointer (some ⟨g, 0, none⟩), .int .i64 0]) ∧ IsLg W' g dg (recG d.b))) := by
  refine (recover_any W (h.tab ht) dg r d h.hd h.ok h.by_).mono ?_
  rintro e w1 hp
  unfold RecP at hp
  dsimp only at hp
  obtain ⟨r', hd', hf', hk', hp⟩ := hp
  have hS : ∀ k, (k = dg ∨ r = some k) → w0.heap.size ≤ k := by
    rintro k (e | e)
    · have := h.dg0; omega
    · exact h.r0 k e
  exact ⟨r', h.step hd' hf' hk' hS (Dsk.recov_ok h.ok) (Dsk.recov_isB h.by_), hk', hf', hp⟩

theorem dcall_ds (h : DS w0 W dg r d) {f : FuncId} {args : Array Value} {res : Int × Dsk} (hc : Calls Tryd.prog f args W (DPost W dg r res)) (ok : res.2.ok) (hb : IsB res.2.b) :
    Calls Tryd.prog f args W fun e W' => e = .returned (.int .i64 res.1) ∧ ∃ r', DS w0 W' dg r' res.2 ∧ Kp W W' (fun k => k = dg ∨ r = some k) ∧ Fr W r r' := by
  refine hc.mono ?_
  rintro e w1 ⟨rfl, r', hd', hk', hf'⟩
  have hS : ∀ k, (k = dg ∨ r = some k) → w0.heap.size ≤ k := by
    rintro k (e | e)
    · have := h.dg0; omega
    · exact h.r0 k e
  exact ⟨rfl, r', h.step hd' hf' hk' hS ok hb, hk', hf'⟩
theorem Dsk.plan_b (d : Dsk) (p b : Int) : (d.plan p b).2.b = d.b := by unfold Dsk.plan; split; rfl; split <;> rfl
theorem Dsk.revive_b (d : Dsk) : d.revive.2.b = d.b := by unfold Dsk.revive; split <;> rfl
theorem plan_ds (h : DS w0 W dg r d) (p b : Int) :
    Calls Tryd.prog 15 #[.pointer (some ⟨dg, 0, none⟩), .int .i64 p, .int .i64 b] W fun e W' => e = .returned (.int .i64 (d.plan p b).1) ∧ ∃ r', DS w0 W' dg r' (d.plan p b).2 ∧ Kp W W' (fun k => k = dg ∨ r = some k) ∧ Fr W r r' :=
  dcall_ds h (plan_any W dg r d h.hd p b) (Dsk.plan_ok h.ok p b) (by rw [Dsk.plan_b]; exact h.by_)
theorem revive_ds (h : DS w0 W dg r d) :
    Calls Tryd.prog 16 #[.pointer (some ⟨dg, 0, none⟩)] W fun e W' => e = .returned (.int .i64 d.revive.1) ∧ ∃ r', DS w0 W' dg r' d.revive.2 ∧ Kp W W' (fun k => k = dg ∨ r = some k) ∧ Fr W r r' :=
  dcall_ds h (revive_any W dg r d h.hd) (Dsk.revive_ok h.ok) (by rw [Dsk.revive_b]; exact h.by_)
theorem put_ds (h : DS w0 W dg r d) (at_ : Int) (A : Option Addr) (n c : Nat) (x : List Int) (hx : x.length = n) (hrd : Rd W A n c (B8 x)) (hb : IsB x) (haw : ∀ ad, A = some ad → x ≠ [] → ad.block ≠ dg ∧ r ≠ some ad.block) :
    Calls Tryd.prog 33 #[.pointer (some ⟨dg, 0, none⟩), .int .i64 at_, .slice A n c] W fun e W' => e = .returned (.int .i64 (d.put at_ x).1) ∧ ∃ r', DS w0 W' dg r' (d.put at_ x).2 ∧ Kp W W' (fun k => k = dg ∨ r = some k) ∧ Fr W r r' :=
  dcall_ds h (put_any W dg r d h.hd h.ok at_ A n c x hx hrd haw) (Dsk.put_ok h.ok at_ x) (Dsk.put_isB h.by_ hb)
theorem new_ds (cap : Nat) (h1 : cap ≤ 1048576) (hk : Kp w0 W (fun _ => False)) :
    Calls Tryd.prog 12 #[.int .i64 cap] W fun e W' => e = .returned (.tuple #[.pointer (some ⟨W.heap.size, 0, none⟩), .int .i64 0]) ∧ DS w0 W' W.heap.size none ⟨cap, [], 0, false, false, 0, 0⟩ ∧ Kp W W' (fun _ => False) := by
  refine (new_ok W cap (by omega) (by omega)).mono ?_
  rintro e w1 ⟨rfl, hd, hk1, _⟩
  exact ⟨rfl, ⟨hk.quiet hk1, hd, Dsk.new_ok (by omega) (by omega), fun c hc => by simp at hc, hk.size, New.none _⟩, hk1⟩
theorem rows_ds (ht : Tab w0) (h : DS w0 W dg r d) {g : Nat} {l : Lg} (hl : IsLg W g dg l) (ho : l.ok d) :
    Calls Tryd.prog 11 #[.pointer (some ⟨g, 0, none⟩)] W (RowsP W (paysL (d.b.take l.at_))) :=
  rows_any W (h.tab ht) g dg r l.at_ l.sum l.next d hl h.hd h.ok h.by_ (by have := ho.at_; have := h.len; omega)
end

theorem IsLg.row2 {W : World} {dg dz g : Nat} {l : Lg} {r : Option Nat} {d : Dsk} (h : IsLg W g dg l) (hd : IsDisk W dz r d) : r ≠ some g ∧ g ≠ dz := by
  obtain ⟨A, c, hb, hr⟩ := hd
  exact ⟨hr.ne_type h (by decide), Blk.ne_type h hb (by decide)⟩

theorem DS.other {w0 W W' : World} {dg : Nat} {r : Option Nat} {d : Dsk} {S : Nat → Prop} (h : DS w0 W dg r d) (hk : Kp W W' S) (hS : ∀ k, S k → w0.heap.size ≤ k) (h1 : ¬ S dg) (h2 : ∀ k, r = some k → ¬ S k) : DS w0 W' dg r d :=
  ⟨h.kp.trans hk (fun k hk => .inr (hS k hk)), h.hd.kp hk h1 h2, h.ok, h.by_, h.dg0, h.r0⟩

end Go.Proofs.YtkameiopahcacaaDoor
