/- Adjust of the reference. Printed by gen_radjb.py. -/
import Derived.Test.YtlbnjgnbpiidaaaGreatDoorB835
import Derived.Test.YtlbnjgnbpiidaaaGreatDoorB836
import Derived.Test.YtlbnjgnbpiidaaaGreatDoorB843
import Derived.Test.YtlbnjgnbpiidaaaGreatDoorB845
import Derived.Test.YtlbnjgnbpiidaaaGreatDoorAdjC
namespace Go.Proofs.YtlbnjgnbpiidaaaGreatDoor
open Go.RowKit
namespace Nt
open _root_.Go.Proofs.YtlbnjgnbpiidaaaGreatDoor.Nm (tl_lit rF rQ showN showD Fits show_size cutS cutS_size cutB cut_show cmpQ RT rtOk trimPrefix_at Ln QL QF QS Q5 R5 shR mrA mr_info NoW noW_all BF cs_other wp_rows1 wp_rows2 wp_rows3 wp_rows4 smF smL smL_step sm_five momF posB posB1 zerB dfA dfB dfC df_ln ln_n n_ne fits_int i64_ten BPost FPost spA spB spC sp_ln atF at_parts mom_parts vrQ rtC fq fr fr_get R5.ok_at rat_neg MV MV.arm mnL armL armsF armsF_step fewL raF ra_parts ra_arm Arm aB aC aB_take aC_take aB_ok aC_ok ApOk ArmsOk arms_ok slQ sl_ln rsQ aS aS_ok aS_y aY aN aN_ok aN_take EV evL ajV ajE mdQ ajL ajsL et_info EO EO.ext EO.push AjPost AjPost.bad adM fewL_no mdQ n_ne TP.row rtN rtD nF rtN_0 rtD_0 rtN_no rtD_no nF_no meQ RqPost mom_ql at_ql)
theorem aY_ok {l : List Arm} (hl : ArmsOk l) {k : Nat} (hk : k ≤ l.length) : Ln 121 0 (aY (l.take k)) := by
 have h := aS_ok (f := fun q => q.y) (fun _ h => h.y) hl k hk
 rw [aS_y] at h
 exact h.mono (by have := hl.len; omega) (by omega)
end Nt
end Go.Proofs.YtlbnjgnbpiidaaaGreatDoor
