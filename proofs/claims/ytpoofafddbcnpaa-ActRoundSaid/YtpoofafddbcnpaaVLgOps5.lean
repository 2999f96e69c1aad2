/- Operations,continued: append. -/
import Derived.Test.YtpoofafddbcnpaaVLgOps4
namespace Lg
open Go Go.RowKit
set_option linter.unusedSimpArgs false
set_option linter.unusedVariables false
section
variable {P : Program} {m : Bool} {w0 : Ini m} {ρ : List Place} {h h' : Heap} {w : World} {a : Act} {env : Env} {cf : CallF} {lo : Nat} {l : LV}

theorem size_zeroCells' (z : Array Value) (n : Nat) : (Builtin.zeroCells z n).size = n * z.size := by simp [Builtin.zeroCells]

theorem run_storeCells_tok {n m u : Nat} {pt : Place} (R : Rep w0 ρ h w) (hn : h[n]? = some (.tok m u)) (hp : ρ[n]? = some pt) {ls : List LV} {vs : List Value} (hv : VRs ρ vs ls) (hs : ls.all LV.single = true) (hk : ls.length ≤ pt.ext) :
    (storeCells (pt.at 0) vs).run P w = .ok () (w.setCells pt.block pt.off vs) := by
  obtain ⟨_,hw⟩ := R.blk n _ pt hn hp
  have hvl := hv.1
  refine run_storeCells_cells pt.block pt.off vs 0 w (fun j hj => ?_) (fun j hj => ?_) (all_oneCell hv hs)
  · have := (hw j (by omega)).1; simpa [Place.at,Nat.add_assoc] using this
  · have := (hw j (by omega)).2; simpa [Place.at,Nat.add_assoc] using this

theorem sim_append {t u e : TypeId} {i : TypeInfo} {ud : TypeDesc} {ty : TypeId} {x y : Operand} {lx ly : X} (ht : P.underlying t = some (.slice e)) (hu : P.underlying u = some ud) (hni : Src ud) (hi : P.info? e = some i)
    (hby : i.bytes ≠ 0) (hsz0 : i.size ≠ 0) (hzs : i.zero.map (fun z => z.cells.size) = some i.size)
    (hx : preX x = some lx) (hy : preX y = some ly) (E : ER ρ a env) (R : Rep w0 ρ h w)
    {ap : Bool} (hE : opE cf lo (.append ap i.size i.bytes lx ly) env h = some (l,h')) : Sim P (do pure (.value (← Builtin.append_ #[t,u] ty #[a.eval x,a.eval y]))) w0 ρ w l h' := by
  obtain ⟨z,hz,hzc⟩ := Option.map_eq_some_iff.1 hzs
  have h1 := preX_vr E hx
  have h2 := preX_vr E hy
  simp only [opE,appendE] at hE
  split at hE
  case h_1 => cases hE
  rename_i new k hsrc
  obtain ⟨hk,nv,hnv,hnsg,hnl,hnf⟩ := run_src (P := P) h2 hsrc R
  obtain ⟨_,nv',hnv',_,_,hnf'⟩ := run_src (P := P) h2 hsrc R.drew
  have hns : nv.size = k * i.size := by have := hnv.1; simp at this; omega
  have hns' : nv'.size = k * i.size := by have := hnv'.1; simp at this; omega
  have hn1 : (Builtin.firstCells i.size k (a.eval y)).run P w = .ok nv w := by
    rw [hnf k (Nat.le_refl _)]
    congr 1
    rw [← hns]; simp
  have hn2 : (Builtin.firstCells i.size k (a.eval y)).run P w.drew = .ok nv' w.drew := by
    rw [hnf' k (Nat.le_refl _)]
    congr 1
    rw [← hns']; simp
  -- a new row
  have fresh : ∀ {h1 : Heap} {w1 : World} (R1 : Rep w0 ρ h1 w1) (hw : w1 = w.drew) (old : Array Value) (oldl : List LV) (sLen cap : Nat),VRs ρ old.toList oldl → oldl.all LV.single = true → old.size = sLen * i.size → sLen + k ≤ cap →
      ∃ ρ',Ext ρ ρ' ∧ Rep w0 ρ' (h1 ++ grownE ap h1.length (sLen + k) i.size (oldl ++ new)) (w.drew.alloc (.cells (old ++ nv' ++ Builtin.zeroCells z.cells (cap - (sLen + k))) e)) ∧
      VR ρ' (.slice (some ⟨w.heap.size,0,none⟩) (sLen + k) cap) (.slice h1.length 0 (sLen + k) i.size false) := by
    intro h1 w1 R1 hw old oldl sLen cap ho hosg hos hcap
    subst hw
    have hsz : (old ++ nv' ++ Builtin.zeroCells z.cells (cap - (sLen + k))).size = cap * i.size := by
      simp only [Array.size_append,hos,hns',size_zeroCells',hzc,← Nat.add_mul]
      congr 1; omega
    have hoN : (oldl ++ new).length = (sLen + k) * i.size := by
      have h1 := ho.1
      simp only [Array.length_toList] at h1
      rw [List.length_append,hnl,← h1,hos,Nat.add_mul]
    have key : Rep w0 (ρ ++ [⟨w.heap.size,0,(old ++ nv' ++ Builtin.zeroCells z.cells (cap - (sLen + k))).size⟩]) (h1 ++ [.cells true (oldl ++ new)]) (w.drew.alloc (.cells (old ++ nv' ++ Builtin.zeroCells z.cells (cap - (sLen + k))) e)) ∧
      VR (ρ ++ [⟨w.heap.size,0,(old ++ nv' ++ Builtin.zeroCells z.cells (cap - (sLen + k))).size⟩]) (.slice (some ⟨w.heap.size,0,none⟩) (sLen + k) cap) (.slice h1.length 0 (sLen + k) i.size false) := by
      constructor
      · refine R1.alloc (n := (sLen + k) * i.size) e (by rw [List.all_append,hosg,hnsg]; rfl) ?_ ?_
        · have h3 := ho.append hnv'
          have e1 : (old ++ nv' ++ Builtin.zeroCells z.cells (cap - (sLen + k))).toList.take ((sLen + k) * i.size) = old.toList ++ nv'.toList := by
            simp only [Array.toList_append]
            rw [List.take_append_of_le_length (by simp [hos,hns',Nat.add_mul])]
            rw [List.take_of_length_le (by simp [hos,hns',Nat.add_mul])]
          rw [e1]; exact h3
        · rw [hsz]; exact Nat.mul_le_mul_right _ hcap
      · exact VR.slice (n := h1.length) (off := 0) (pl := ⟨w.heap.size,0,(old ++ nv' ++ Builtin.zeroCells z.cells (cap - (sLen + k))).size⟩) (by rw [← R1.len]; exact List.getElem?_concat_length) hcap (by show 0 + cap * i.size ≤ (old ++ nv' ++ Builtin.zeroCells z.cells (cap - (sLen + k))).size; rw [hsz]; omega) (by simp)
    obtain ⟨k1,k2⟩ := key
    cases ap with
    | false => exact ⟨_,Ext.app _ _,k1,k2⟩
    | true =>
      have k3 := k1.split
      rw [hoN,List.append_assoc h1] at k3
      exact ⟨_,(Ext.app _ _).trans (Ext.app _ _),k3,k2.mono (Ext.app _ _)⟩
  split at hE
  · -- nil
    rename_i hs
    rw [hs] at h1
    have hv : a.eval x = .slice none 0 0 := by generalize a.eval x = v at h1; cases h1; rfl
    by_cases hk0 : k = 0
    · rw [if_pos hk0] at hE
      simp only [Option.some.injEq,Prod.mk.injEq] at hE
      obtain ⟨rfl,rfl⟩ := hE
      refine sim_vals (v := .slice none 0 0) R .nilslice ?_
      rw [hv,run_append_in (base := none) ht hu hni hi hk hn1 (by omega)]
      simp [hk0]
    · rw [if_neg hk0] at hE
      split at hE
      case isFalse => cases hE
      rename_i hb
      simp only [Option.some.injEq,Prod.mk.injEq] at hE
      obtain ⟨rfl,rfl⟩ := hE
      obtain ⟨cap,hcap,hrun⟩ := run_append_out (P := P) (w := w) (ty := ty) (sLen := 0) (sCap := 0) (base := none) (old := #[]) ht hu hni hi hz hby hk hn2 (by simp [Builtin.firstCells]) (by omega) (by simpa using hb)
      obtain ⟨ρ',X',R',V'⟩ := fresh R.drew rfl #[] [] 0 cap (.nil ρ) rfl (by simp) hcap
      simp only [Nat.zero_add] at V' R'
      refine ⟨_,_,_,X',R',V',.inl ?_⟩
      rw [hv]
      simp only [Sem.run_bind,hrun,Result.andThen_ok,Sem.run_pure,Nat.zero_add]
  · rename_i n off len es' full hs
    rw [hs] at h1
    split at hE
    · rename_i hlf
      obtain ⟨rfl,rfl⟩ := hlf
      have inv : ∃ ad,a.eval x = .slice (some ad) 0 0 := by
        generalize a.eval x = v at h1
        cases h1 with
        | slice hp hc hx hf => have := hf rfl; subst this; exact ⟨_,rfl⟩
        | slice0 ad => exact ⟨ad,rfl⟩
      obtain ⟨ad,hv⟩ := inv
      by_cases hk0 : k = 0
      · rw [if_pos hk0] at hE
        simp only [Option.some.injEq,Prod.mk.injEq] at hE
        obtain ⟨rfl,rfl⟩ := hE
        subst hk0
        have hnil : nv = #[] := Array.eq_empty_of_size_eq_zero (by simpa using hns)
        refine sim_vals R h1 ?_
        rw [hv,run_append_in (base := some _) ht hu hni hi hk hn1 (by omega)]
        simp [hnil,storeCells]
      · rw [if_neg hk0] at hE
        split at hE
        case isFalse => cases hE
        rename_i hb
        simp only [Option.some.injEq,Prod.mk.injEq] at hE
        obtain ⟨rfl,rfl⟩ := hE
        obtain ⟨cap,hcap,hrun⟩ := run_append_out (P := P) (w := w) (ty := ty) (sLen := 0) (sCap := 0) (base := some ad) (old := #[]) ht hu hni hi hz hby hk hn2 (by simp [Builtin.firstCells,loadCells,loadCellsFrom]) (by omega) (by simpa using hb)
        obtain ⟨ρ',X',R',V'⟩ := fresh R.drew rfl #[] [] 0 cap (.nil ρ) rfl (by simp) hcap
        simp only [Nat.zero_add] at V' R'
        refine ⟨_,_,_,X',R',V',.inl ?_⟩
        rw [hv]
        simp only [Sem.run_bind,hrun,Result.andThen_ok,Sem.run_pure,Nat.zero_add]
    rename_i hlf
    split at hE
    · cases hE
    rename_i hes
    simp only [ne_eq,Decidable.not_not] at hes
    subst hes
    by_cases hk0 : k = 0
    · rw [if_pos hk0] at hE
      simp only [Option.some.injEq,Prod.mk.injEq] at hE
      obtain ⟨rfl,rfl⟩ := hE
      subst hk0
      have hnil : nv = #[] := Array.eq_empty_of_size_eq_zero (by simpa using hns)
      refine sim_vals R h1 ?_
      generalize a.eval x = v at h1
      cases h1 with
      | slice hp hc hx hf =>
        rw [run_append_in (base := some _) ht hu hni hi hk hn1 (by omega)]
        simp [hnil,storeCells]
      | slice0 ad =>
        rw [run_append_in (base := some _) ht hu hni hi hk hn1 (by omega)]
        simp [hnil,storeCells]
    · rw [if_neg hk0] at hE
      split at hE
      case isFalse => cases hE
      rename_i hb
      split at hE
      case h_2 => cases hE
      rename_i rw cs hn
      split at hE
      case isFalse => cases hE
      rename_i hle
      -- the old cells,read in the drawn world
      have hold : ∃ ov : Array Value,VRs ρ ov.toList ((cs.drop off).take (len * i.size)) ∧ ((cs.drop off).take (len * i.size)).all LV.single = true ∧ ov.size = len * i.size ∧ ∀ cap ad,a.eval x = .slice (some ad) len cap → (Builtin.firstCells i.size len (.slice (some ad) len cap)).run P w.drew = .ok ov w.drew := by
        obtain ⟨_,ov,h3,h3s,h4,h5⟩ := run_src (P := P) (es := i.size) (k := len) (new := (cs.drop off).take (len * i.size)) h1 (by
          by_cases hl0 : len = 0
          · subst hl0; simp [srcOf]
          · simp [srcOf,cellsOf,hn,hle,hl0]) R.drew
        have h6 : ov.size = len * i.size := by have := h3.1; simp at this; simp at h4; omega
        refine ⟨ov,h3,h3s,h6,fun cap ad hv => ?_⟩
        have := h5 len (Nat.le_refl _)
        rw [hv] at this
        rw [this]
        congr 1
        rw [← h6]; simp
      obtain ⟨ov,hov,hosg,hos,hof⟩ := hold
      have grow : ∀ {h1 : Heap} (R1 : Rep w0 ρ h1 w.drew) (cap : Nat) (ad : Addr),a.eval x = .slice (some ad) len cap → cap < len + k →
          Sim P (do pure (.value (← Builtin.append_ #[t,u] ty #[a.eval x,a.eval y]))) w0 ρ w (.slice h1.length 0 (len + k) i.size false) (h1 ++ grownE ap h1.length (len + k) i.size ((cs.drop off).take (len * i.size) ++ new)) := by
        intro h1 R1 cap ad hv hlt
        obtain ⟨cap',hcap,hrun⟩ := run_append_out (P := P) (w := w) (ty := ty) (sLen := len) (sCap := cap) (base := some ad) (old := ov) ht hu hni hi hz hby hk hn2 (hof cap ad hv) hlt hb
        obtain ⟨ρ',X',R',V'⟩ := fresh R1 rfl ov _ len cap' hov hosg hos hcap
        refine ⟨_,_,_,X',R',V',.inl ?_⟩
        rw [hv]
        simp only [Sem.run_bind,hrun,Result.andThen_ok,Sem.run_pure]
      obtain ⟨pl,hp⟩ := R.place hn
      have dead : ∀ (hrw : rw = true),Rep w0 ρ (h.set n .dead) w := fun hrw => by
        subst hrw
        exact R.upd hn hp (fun h => by simp [LBlk.rw] at h) (fun h => by simp [LBlk.live] at h) True.intro R.below (Nat.le_refl _) (fun m c pm _ _ _ _ => Keeps.refl _ _) rfl
      split at hE
      · -- known to be full
        rename_i hfull
        simp only [Option.some.injEq,Prod.mk.injEq] at hE
        obtain ⟨rfl,rfl⟩ := hE
        have inv : ∃ ad,a.eval x = .slice (some ad) len len := by
          generalize a.eval x = v at h1
          cases h1 with
          | slice hp hc hx hf => have := hf hfull; subst this; exact ⟨_,rfl⟩
          | slice0 ad => exact ⟨ad,rfl⟩
        obtain ⟨ad,hv⟩ := inv
        exact grow R.drew len ad hv (by omega)
      · rename_i hnf'
        cases hap : ap with
        | true =>
          subst hap
          simp only [if_true] at hE
          split at hE
          case h_2 => cases hE
          rename_i m u htok
          split at hE
          case isFalse => cases hE
          rename_i hrl
          obtain ⟨rfl,rfl,hlo,rfl⟩ := hrl
          simp only [Option.some.injEq,Prod.mk.injEq] at hE
          obtain ⟨rfl,rfl⟩ := hE
          have hlen0 : (h.set (m + 1) .dead).length = h.length := by simp
          have hpt := R.place htok
          obtain ⟨pt,hpt⟩ := hpt
          have Rd : Rep w0 ρ (h.set (m + 1) .dead) w := R.upd htok hpt (fun h => by cases h) (fun h => by cases h) True.intro R.below (Nat.le_refl _) (fun m c pm _ _ _ _ => Keeps.refl _ _) rfl
          have hgr : ∀ (cap : Nat) (ad : Addr),a.eval x = .slice (some ad) len cap → cap < len + k → Sim P (do pure (.value (← Builtin.append_ #[t,u] ty #[a.eval x,a.eval y]))) w0 ρ w (.slice h.length 0 (len + k) i.size false) (h.set (m + 1) .dead ++ grownE true h.length (len + k) i.size ((cs.drop off).take (len * i.size) ++ new)) := by
            intro cap ad hv hlt
            have := grow Rd.drew cap ad hv hlt
            rwa [hlen0] at this
          generalize hev : a.eval x = v at h1 hgr ⊢
          cases h1 with
          | slice0 ad => exact hgr 0 ad rfl (by omega)
          | @slice _ _ _ cap _ _ pl2 hp2 hc hx hf =>
            rw [hp] at hp2
            cases hp2
            by_cases hroom : len + k ≤ cap
            case neg => exact hgr cap _ rfl (by omega)
            have hcapm : (len + k) * i.size ≤ cap * i.size := Nat.mul_le_mul_right _ hroom
            have hsplit : (len + k) * i.size = len * i.size + k * i.size := Nat.add_mul _ _ _
            have hb1 := (R.blk m _ pl hn hp).2.1
            obtain ⟨⟨pm,hpm,hux,hpe⟩,hw⟩ := R.blk (m + 1) _ pt htok hpt
            rw [hp] at hpm; cases hpm
            have hvl := hnv.1
            have hx3 := R.extend (ls := new) (vs := nv.toList) (off := off) hn hp htok hnsg hnv (by omega) (by omega) (by rw [hnl]; omega)
            have hst := run_storeCells_tok (P := P) R htok hpt hnv hnsg (by rw [hpe,hnl]; show _ ≤ pl.ext - _; omega)
            have hrun : (Builtin.append_ #[t,u] ty #[.slice (some (pl.at off)) len cap,a.eval y]).run P w = .ok (.slice (some (pl.at off)) (len + k) cap) (w.setCells pl.block (pl.off + (off + len * i.size)) nv.toList) := by
              rw [run_append_in (base := some _) ht hu hni hi hk hn1 hroom]
              rw [hpe] at hst
              have e0 : (Place.mk pl.block (pl.off + (off + len * i.size)) (pl.ext - (off + len * i.size))).at 0 = pl.at (off + len * i.size) := by simp [Place.at]
              rw [e0] at hst
              simp only [Place.at_add,hst,Result.andThen_ok]
            have e1 : off + len * i.size - off + new.length = (len + k) * i.size := by rw [hnl]; omega
            have e2 : off + len * i.size - off = len * i.size := by omega
            rw [e1,e2,List.append_assoc (h.set _ _)] at hx3
            refine ⟨.slice (some ((Place.mk pl.block (pl.off + off) (pl.ext - off)).at 0)) (len + k) cap,_,_,(Ext.app _ _).trans (Ext.app _ _),hx3,VR.mono (Ext.app _ _) (VR.slice (n := h.length) (off := 0) (pl := ⟨pl.block,pl.off + off,pl.ext - off⟩) (by rw [← R.len]; simp) hroom (by show 0 + cap * i.size ≤ pl.ext - off; omega) (by simp)),.inl ?_⟩
            simp only [Sem.run_bind,hrun,Result.andThen_ok,Sem.run_pure]
            simp [Place.at]
        | false =>
        subst hap
        simp only [Bool.false_eq_true,if_false] at hE
        split at hE
        case isFalse => cases hE
        rename_i hrl
        obtain ⟨hrw,hlo⟩ := hrl
        simp only [Option.some.injEq,Prod.mk.injEq] at hE
        obtain ⟨rfl,rfl⟩ := hE
        have hlen0 : (h.set n .dead).length = h.length := by simp
        have Rd := dead hrw
        have hgr : ∀ (cap : Nat) (ad : Addr),a.eval x = .slice (some ad) len cap → cap < len + k → Sim P (do pure (.value (← Builtin.append_ #[t,u] ty #[a.eval x,a.eval y]))) w0 ρ w (.slice h.length 0 (len + k) i.size false) (h.set n .dead ++ grownE false h.length (len + k) i.size ((cs.drop off).take (len * i.size) ++ new)) := by
          intro cap ad hv hlt
          have := grow Rd.drew cap ad hv hlt
          rwa [hlen0] at this
        generalize hev : a.eval x = v at h1 hgr ⊢
        cases h1 with
        | slice0 ad => exact hgr 0 ad rfl (by omega)
        | @slice _ _ _ cap _ _ pl2 hp2 hc hx hf =>
          rw [hp] at hp2
          cases hp2
          by_cases hroom : len + k ≤ cap
          case neg => exact hgr cap _ rfl (by omega)
          -- in place
          have hcapm : (len + k) * i.size ≤ cap * i.size := Nat.mul_le_mul_right _ hroom
          have hsplit : (len + k) * i.size = len * i.size + k * i.size := Nat.add_mul _ _ _
          subst hrw
          obtain ⟨b0,b1,b2,b3⟩ := R.blk n _ pl hn hp
          have hst := run_storeCells_at' (P := P) R hn hp (off + len * i.size) hnv hnsg (by rw [hnl]; omega)
          have hvl := hnv.1
          have hrun : (Builtin.append_ #[t,u] ty #[.slice (some (pl.at off)) len cap,a.eval y]).run P w = .ok (.slice (some (pl.at off)) (len + k) cap) (w.setCells pl.block (pl.off + (off + len * i.size)) nv.toList) := by
            rw [run_append_in (base := some _) ht hu hni hi hk hn1 hroom]
            simp only [Place.at_add,hst,Result.andThen_ok]
          have hB : Bel w0.heap.size w0 (w.setCells pl.block (pl.off + (off + len * i.size)) nv.toList) := Bel.setCells _ (R.own n _ pl hn rfl hp) _ _ _ R.below
          have hin : ∀ (j : Nat) (hj : j < nv.toList.length),(w.setCells pl.block (pl.off + (off + len * i.size)) nv.toList).cell? (pl.at (off + len * i.size + j)) = some nv.toList[j] := by
            intro j hj
            have := World.cell?_setCells_in pl.block nv.toList (pl.off + (off + len * i.size)) w (fun j hj => by
              have := (b3 rfl (off + len * i.size + j) (by omega)).1
              simpa [Place.at,Nat.add_assoc] using this) j hj
            simpa [Place.at,Nat.add_assoc] using this
          have hout : ∀ (q : Nat),q < off + len * i.size ∨ off + len * i.size + nv.toList.length ≤ q → (w.setCells pl.block (pl.off + (off + len * i.size)) nv.toList).cell? (pl.at q) = w.cell? (pl.at q) := by
            intro q hq
            exact World.cell?_setCells_out _ _ _ _ _ (fun _ _ => by simp only [Place.at]; omega)
          have hat : ∀ (q : Nat),(Place.mk pl.block (pl.off + off) (pl.ext - off)).at q = pl.at (off + q) := fun q => by simp [Place.at,Nat.add_assoc]
          have hdis : ∀ (m : Nat) (c : LBlk) (pm : Place),(h.set n .dead)[m]? = some c → c.live = true → ρ[m]? = some pm → Dis pl (c.span pm) := by
            intro m c pm hc hl hm
            rw [List.getElem?_set] at hc
            split at hc
            · split at hc
              · simp at hc; subst hc; simp [LBlk.live] at hl
              · cases hc
            · rename_i hne
              exact R.dis n m _ c pl pm hne hn hc hp hm rfl hl
          have hol : ((cs.drop off).take (len * i.size)).length = len * i.size := by simp; omega
          refine ⟨.slice (some ((Place.mk pl.block (pl.off + off) (pl.ext - off)).at 0)) (len + k) cap,_,ρ ++ [⟨pl.block,pl.off + off,pl.ext - off⟩],Ext.app _ _,Rd.push (pl := ⟨pl.block,pl.off + off,pl.ext - off⟩) ?_ hB (by rw [setCells_size]; exact Nat.le_refl _) (by rw [setCells_size]; exact (R.lt n pl hp).imp id (fun h => by show pl.ext - off = 0; omega)) (fun _ => R.own n _ pl hn rfl hp) ?_ ?_ ?_,?_,.inl ?_⟩
          · refine ⟨by rw [List.all_append,hosg,hnsg]; rfl,by rw [List.length_append,hol,hnl]; show _ ≤ pl.ext - off; omega,?_,?_⟩
            · intro q lq hq
              rw [hat]
              rcases Nat.lt_or_ge q (len * i.size) with h1 | h1
              · rw [hout (off + q) (.inl (by omega))]
                rw [List.getElem?_append_left (by omega),List.getElem?_take,if_pos h1,List.getElem?_drop] at hq
                obtain ⟨v,hv,hr⟩ := b2 _ lq hq
                exact ⟨v,hv,hr.mono (Ext.app _ _)⟩
              · rw [List.getElem?_append_right (by omega),hol] at hq
                have hq' : q - len * i.size < nv.toList.length := by rw [hvl]; exact lt_of_getElem? hq
                have := hin (q - len * i.size) hq'
                rw [show off + len * i.size + (q - len * i.size) = off + q by omega] at this
                exact ⟨_,this,(hnv.2 _ _ lq (List.getElem?_eq_getElem hq') hq).mono (Ext.app _ _)⟩
            · intro _ q hq
              rw [hat]
              simp only at hq
              refine ⟨?_,by rw [World.frozen?_setCells]; exact (b3 rfl (off + q) (by omega)).2⟩
              rcases Nat.lt_or_ge q (len * i.size) with h1 | h1
              · rw [hout (off + q) (.inl (by omega))]; exact (b3 rfl (off + q) (by omega)).1
              · rcases Nat.lt_or_ge (q - len * i.size) nv.toList.length with h2 | h2
                · have := hin _ h2
                  rw [show off + len * i.size + (q - len * i.size) = off + q by omega] at this
                  rw [this]; rfl
                · rw [hout (off + q) (.inr (by omega))]; exact (b3 rfl (off + q) (by omega)).1
          · intro m c pm hc hl hm
            exact Keeps.setCells _ _ _ _ _ (hdis m c pm hc hl hm) (by rw [hvl,hnl]; omega)
          · intro _ m c pm hc hl hm
            have := hdis m c pm hc hl hm
            unfold Dis at this ⊢
            simp only
            omega
          · intro _ m c pm hc hr hm
            have := hdis m c pm hc (LBlk.live_of_rw hr) hm
            rw [LBlk.span_rw hr] at this
            unfold Dis at this
            unfold Dis LBlk.span
            simp only
            omega
          · refine VR.slice (n := h.length) (off := 0) (pl := ⟨pl.block,pl.off + off,pl.ext - off⟩) (by rw [← R.len]; simp) hroom (by simp only; omega) (by simp)
          · simp only [Sem.run_bind,hrun,Result.andThen_ok,Sem.run_pure]
            simp [Place.at]
  · cases hE
end
end Lg
